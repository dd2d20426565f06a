/- The law RedoAtomic holds of the program: proved over what is known of memory, each function by its contract. -/
import Derived.Test.YtmpiggcooboenaaDoorMgRedoAtomicLaw
import Derived.Test.YtmpiggcooboenaaDoorMgRedo1
import Derived.Test.YtmpiggcooboenaaDoorMgRedo2
import Derived.Test.YtmpiggcooboenaaDoorMgRedo3
import Derived.Test.YtmpiggcooboenaaDoorMgRedo4
import Derived.Test.YtmpiggcooboenaaDoorMgRedo5
namespace Go.Proofs.YtmpiggcooboenaaDoor.AlRedoAtomic
open Go Go.Al Go.Proofs Go.RowKit Go.Proofs.YtmpiggcooboenaaDoor.Al
set_option maxHeartbeats 8000000
set_option maxRecDepth 100000
set_option linter.unusedVariables false
set_option linter.unusedSimpArgs false
theorem putAll_len {g : Int → List UInt8} (hg : ∀ p, (g p).length = 240) (ws : List (Int × List UInt8)) (hw : ∀ p ∈ ws, p.2.length = 240) (k : Int) : (putAll g ws k).length = 240 := by
  rcases putAll_or ws g k with e | e
  · rw [e]; exact hg k
  · exact hw _ e
/-- What is known but for a part. -/
def rest (E F : Heap) : Heap := fun c => match E c with | none => F c | some _ => none
theorem rest_ext (E F : Heap) : Ext (rest E F) F := fun c o hc => by
  unfold rest at hc
  split at hc
  · exact hc
  · cases hc
theorem rest_apart (E F : Heap) : Apart E (rest E F) := fun c hc => by
  unfold rest
  cases e : E c with
  | none => exact absurd e hc
  | some o => rfl
theorem rest_keep {E R F : Heap} (hR : Ext R F) (hA : Apart E R) : Ext R (rest E F) := fun c o hc => by
  unfold rest
  cases e : E c with
  | none => exact hR _ _ hc
  | some u => rw [hA c (by rw [e]; simp)] at hc; cases hc
theorem rest_row {E F : Heap} {A : Option Addr} {vs : List Value} (hr : RowAt F A vs) (h : ∀ a, A = some a → E a.block = none) : RowAt (rest E F) A vs := fun j v hj => by
  obtain ⟨a, e, hc⟩ := hr j v hj
  refine ⟨a, e, ?_⟩
  have hb : (rest E F) (a.add j).block = F (a.add j).block := by
    unfold rest
    rw [show (a.add j).block = a.block by unfold Addr.add; split <;> rfl, h a e]
  unfold Heap.cell? at hc ⊢
  rw [hb]
  exact hc
theorem law : LawK := by
  intro F hN x0 w0 A0 c0 hc0 hK0 x1 w1 A1 c1 hc1 hK1 a2 w2 a3 w3 x4 w4 A4 c4 hc4 hK4 x5 w5 A5 c5 hc5 hK5
  obtain ⟨l0, rfl⟩ := bytes_of_wf w0.2
  obtain ⟨l1, rfl⟩ := bytes_of_wf w1.2
  have hr0 : RowAt F A0 (bytesOf l0) := elems_bytes hK0
  have hr1 : RowAt F A1 (bytesOf l1) := elems_bytes hK1
  have hr4 := elems_ints hK4
  have hr5 := elems_ints hK5
  have hu2 : 0 ≤ a2 ∧ a2 < 256 := by simp [Lit.wf, IntKind.min, IntKind.max, IntKind.signed, IntKind.bits] at w2; omega
  have hu3 : 0 ≤ a3 ∧ a3 < 256 := by simp [Lit.wf, IntKind.min, IntKind.max, IntKind.signed, IntKind.bits] at w3; omega
  clear hK0 hK1 hK4 hK5 w0 w1 w2 w3 w4 w5
  rw [List.length_map] at hc0 hc1
  simp only [List.length_map]
  have h27 : (3 : Int) ≤ 27 ∧ (27 : Int) ≤ 65536 := by decide
  have out : ∀ F', Ext F F' → FnK Tryd.prog 23 #[] F' (fun v F' => v = .bool true ∧ Ext F F') := fun F' hF' => (awake6 F' (hN.mono hF')).mono fun v G h => ⟨h.1, hF'.trans h.2⟩
  (refine fn_walk tab_ok Tryd.func7 rfl rfl rfl rfl ?_; (conv => whnf))
  by_cases hsm : l0.length ≤ 12 ∧ l1.length ≤ 12 ∧ x4.length ≤ 60 ∧ x5.length ≤ 60
  rotate_left
  · cases e0 : decide ((l0.length : Int) > 12) with
    | true =>
      ((conv => whnf); repeat (first | (apply load_at; (conv => lhs; whnf); (with_reducible assumption); rfl; (conv => whnf)) | (apply load_at; (conv => lhs; rw [add_plain, add_plain]); (with_reducible assumption); rfl; (conv => whnf)) | (apply loads_at; (conv => lhs; whnf); (with_reducible assumption); rfl; (conv => whnf)) | (refine ⟨⟨by omega, by omega⟩, ?_⟩; (conv => whnf))))
      refine call_of (out F (Ext.refl F)) ?_
      rintro v F9 ⟨rfl, hE⟩
      ((conv => whnf); repeat (first | (apply load_at; (conv => lhs; whnf); (with_reducible assumption); rfl; (conv => whnf)) | (apply load_at; (conv => lhs; rw [add_plain, add_plain]); (with_reducible assumption); rfl; (conv => whnf)) | (apply loads_at; (conv => lhs; whnf); (with_reducible assumption); rfl; (conv => whnf)) | (refine ⟨⟨by omega, by omega⟩, ?_⟩; (conv => whnf))))
      exact ⟨rfl, hE⟩
    | false =>
    ((conv => whnf); repeat (first | (apply load_at; (conv => lhs; whnf); (with_reducible assumption); rfl; (conv => whnf)) | (apply load_at; (conv => lhs; rw [add_plain, add_plain]); (with_reducible assumption); rfl; (conv => whnf)) | (apply loads_at; (conv => lhs; whnf); (with_reducible assumption); rfl; (conv => whnf)) | (refine ⟨⟨by omega, by omega⟩, ?_⟩; (conv => whnf))))
    cases e1 : decide ((l1.length : Int) > 12) with
    | true =>
      ((conv => whnf); repeat (first | (apply load_at; (conv => lhs; whnf); (with_reducible assumption); rfl; (conv => whnf)) | (apply load_at; (conv => lhs; rw [add_plain, add_plain]); (with_reducible assumption); rfl; (conv => whnf)) | (apply loads_at; (conv => lhs; whnf); (with_reducible assumption); rfl; (conv => whnf)) | (refine ⟨⟨by omega, by omega⟩, ?_⟩; (conv => whnf))))
      refine call_of (out F (Ext.refl F)) ?_
      rintro v F9 ⟨rfl, hE⟩
      ((conv => whnf); repeat (first | (apply load_at; (conv => lhs; whnf); (with_reducible assumption); rfl; (conv => whnf)) | (apply load_at; (conv => lhs; rw [add_plain, add_plain]); (with_reducible assumption); rfl; (conv => whnf)) | (apply loads_at; (conv => lhs; whnf); (with_reducible assumption); rfl; (conv => whnf)) | (refine ⟨⟨by omega, by omega⟩, ?_⟩; (conv => whnf))))
      exact ⟨rfl, hE⟩
    | false =>
    ((conv => whnf); repeat (first | (apply load_at; (conv => lhs; whnf); (with_reducible assumption); rfl; (conv => whnf)) | (apply load_at; (conv => lhs; rw [add_plain, add_plain]); (with_reducible assumption); rfl; (conv => whnf)) | (apply loads_at; (conv => lhs; whnf); (with_reducible assumption); rfl; (conv => whnf)) | (refine ⟨⟨by omega, by omega⟩, ?_⟩; (conv => whnf))))
    cases e4 : decide ((x4.length : Int) > 60) with
    | true =>
      ((conv => whnf); repeat (first | (apply load_at; (conv => lhs; whnf); (with_reducible assumption); rfl; (conv => whnf)) | (apply load_at; (conv => lhs; rw [add_plain, add_plain]); (with_reducible assumption); rfl; (conv => whnf)) | (apply loads_at; (conv => lhs; whnf); (with_reducible assumption); rfl; (conv => whnf)) | (refine ⟨⟨by omega, by omega⟩, ?_⟩; (conv => whnf))))
      refine call_of (out F (Ext.refl F)) ?_
      rintro v F9 ⟨rfl, hE⟩
      ((conv => whnf); repeat (first | (apply load_at; (conv => lhs; whnf); (with_reducible assumption); rfl; (conv => whnf)) | (apply load_at; (conv => lhs; rw [add_plain, add_plain]); (with_reducible assumption); rfl; (conv => whnf)) | (apply loads_at; (conv => lhs; whnf); (with_reducible assumption); rfl; (conv => whnf)) | (refine ⟨⟨by omega, by omega⟩, ?_⟩; (conv => whnf))))
      exact ⟨rfl, hE⟩
    | false =>
    ((conv => whnf); repeat (first | (apply load_at; (conv => lhs; whnf); (with_reducible assumption); rfl; (conv => whnf)) | (apply load_at; (conv => lhs; rw [add_plain, add_plain]); (with_reducible assumption); rfl; (conv => whnf)) | (apply loads_at; (conv => lhs; whnf); (with_reducible assumption); rfl; (conv => whnf)) | (refine ⟨⟨by omega, by omega⟩, ?_⟩; (conv => whnf))))
    cases e5 : decide ((x5.length : Int) > 60) with
    | true =>
      ((conv => whnf); repeat (first | (apply load_at; (conv => lhs; whnf); (with_reducible assumption); rfl; (conv => whnf)) | (apply load_at; (conv => lhs; rw [add_plain, add_plain]); (with_reducible assumption); rfl; (conv => whnf)) | (apply loads_at; (conv => lhs; whnf); (with_reducible assumption); rfl; (conv => whnf)) | (refine ⟨⟨by omega, by omega⟩, ?_⟩; (conv => whnf))))
      refine call_of (out F (Ext.refl F)) ?_
      rintro v F9 ⟨rfl, hE⟩
      ((conv => whnf); repeat (first | (apply load_at; (conv => lhs; whnf); (with_reducible assumption); rfl; (conv => whnf)) | (apply load_at; (conv => lhs; rw [add_plain, add_plain]); (with_reducible assumption); rfl; (conv => whnf)) | (apply loads_at; (conv => lhs; whnf); (with_reducible assumption); rfl; (conv => whnf)) | (refine ⟨⟨by omega, by omega⟩, ?_⟩; (conv => whnf))))
      exact ⟨rfl, hE⟩
    | false =>
      have := of_decide_eq_false e0
      have := of_decide_eq_false e1
      have := of_decide_eq_false e4
      have := of_decide_eq_false e5
      exact absurd ⟨by omega, by omega, by omega, by omega⟩ hsm
  obtain ⟨s0, s1, s4, s5⟩ := hsm
  have d0 : decide ((l0.length : Int) > 12) = false := decide_eq_false (by omega)
  have d1 : decide ((l1.length : Int) > 12) = false := decide_eq_false (by omega)
  have d4 : decide ((x4.length : Int) > 60) = false := decide_eq_false (by omega)
  have d5 : decide ((x5.length : Int) > 60) = false := decide_eq_false (by omega)
  rw [d0]
  ((conv => whnf); repeat (first | (apply load_at; (conv => lhs; whnf); (with_reducible assumption); rfl; (conv => whnf)) | (apply load_at; (conv => lhs; rw [add_plain, add_plain]); (with_reducible assumption); rfl; (conv => whnf)) | (apply loads_at; (conv => lhs; whnf); (with_reducible assumption); rfl; (conv => whnf)) | (refine ⟨⟨by omega, by omega⟩, ?_⟩; (conv => whnf))))
  rw [d1]
  ((conv => whnf); repeat (first | (apply load_at; (conv => lhs; whnf); (with_reducible assumption); rfl; (conv => whnf)) | (apply load_at; (conv => lhs; rw [add_plain, add_plain]); (with_reducible assumption); rfl; (conv => whnf)) | (apply loads_at; (conv => lhs; whnf); (with_reducible assumption); rfl; (conv => whnf)) | (refine ⟨⟨by omega, by omega⟩, ?_⟩; (conv => whnf))))
  rw [d4]
  ((conv => whnf); repeat (first | (apply load_at; (conv => lhs; whnf); (with_reducible assumption); rfl; (conv => whnf)) | (apply load_at; (conv => lhs; rw [add_plain, add_plain]); (with_reducible assumption); rfl; (conv => whnf)) | (apply loads_at; (conv => lhs; whnf); (with_reducible assumption); rfl; (conv => whnf)) | (refine ⟨⟨by omega, by omega⟩, ?_⟩; (conv => whnf))))
  rw [d5]
  ((conv => whnf); repeat (first | (apply load_at; (conv => lhs; whnf); (with_reducible assumption); rfl; (conv => whnf)) | (apply load_at; (conv => lhs; rw [add_plain, add_plain]); (with_reducible assumption); rfl; (conv => whnf)) | (apply loads_at; (conv => lhs; whnf); (with_reducible assumption); rfl; (conv => whnf)) | (refine ⟨⟨by omega, by omega⟩, ?_⟩; (conv => whnf))))
  refine call_of (new_n h27 F) ?_
  rintro v F1 ⟨b, D1, rfl, hM1, hD1⟩
  have hF1 := hM1.keep (Ext.refl F) (Apart.none F)
  have hA1 := hM1.apart (Ext.refl F) (Apart.none F)
  refine short [0, 1, 2, 3, 4, 5, 47] [.slice A0 l0.length c0, .slice A1 l1.length c1, .int .u8 a2, .int .u8 a3, .slice A4 x4.length c4, .slice A5 x5.length c5, .tuple #[.pointer (some ⟨b, 0, none⟩), .int .i64 0]] rfl fun ρ => ?_
  ((conv => whnf); repeat (first | (apply load_at; (conv => lhs; whnf); (with_reducible assumption); rfl; (conv => whnf)) | (apply load_at; (conv => lhs; rw [add_plain, add_plain]); (with_reducible assumption); rfl; (conv => whnf)) | (apply loads_at; (conv => lhs; whnf); (with_reducible assumption); rfl; (conv => whnf)) | (refine ⟨⟨by omega, by omega⟩, ?_⟩; (conv => whnf))))
  refine call_of (fmt_n h27 hM1.inn hD1 (hN.mono hF1)) ?_
  rintro v F2 ⟨rfl, D2, s2, hM2, hD2, hf2⟩
  have hF2 := hM2.keep hF1 hA1
  have hA2 := hM2.apart hF1 hA1
  refine short [0, 1, 2, 3, 4, 5, 13, 56, 58] [.slice A0 l0.length c0, .slice A1 l1.length c1, .int .u8 a2, .int .u8 a3, .slice A4 x4.length c4, .slice A5 x5.length c5, .pointer (some ⟨b, 0, none⟩), .bool false, .int .i64 0] rfl fun ρ => ?_
  ((conv => whnf); repeat (first | (apply load_at; (conv => lhs; whnf); (with_reducible assumption); rfl; (conv => whnf)) | (apply load_at; (conv => lhs; rw [add_plain, add_plain]); (with_reducible assumption); rfl; (conv => whnf)) | (apply loads_at; (conv => lhs; whnf); (with_reducible assumption); rfl; (conv => whnf)) | (refine ⟨⟨by omega, by omega⟩, ?_⟩; (conv => whnf))))
  refine call_of (open_f h27 hM2.inn hD2 (hN.mono hF2) hf2) ?_
  rintro v F3 ⟨lb, E3, s3, rfl, hM3, hL3, hf3⟩
  have hF3 := hM3.keep hF2 hA2
  have hA3 := hM3.apart hF2 hA2
  have hE3 := hM3.inn
  refine short [0, 1, 2, 3, 4, 5, 13, 63] [.slice A0 l0.length c0, .slice A1 l1.length c1, .int .u8 a2, .int .u8 a3, .slice A4 x4.length c4, .slice A5 x5.length c5, .pointer (some ⟨b, 0, none⟩), .tuple #[.pointer (some ⟨lb, 0, none⟩), .int .i64 0]] rfl fun ρ => ?_
  ((conv => whnf); repeat (first | (apply load_at; (conv => lhs; whnf); (with_reducible assumption); rfl; (conv => whnf)) | (apply load_at; (conv => lhs; rw [add_plain, add_plain]); (with_reducible assumption); rfl; (conv => whnf)) | (apply loads_at; (conv => lhs; whnf); (with_reducible assumption); rfl; (conv => whnf)) | (refine ⟨⟨by omega, by omega⟩, ?_⟩; (conv => whnf))))
  refine call_of (some6 l0 1 A0 c0 F3 (hr0.mono hF3) (by omega)) ?_
  rintro v F4 ⟨⟨ps, B, bc, rfl, hB, hBf, hps, hpe⟩, hX4⟩
  obtain ⟨r1, r2, r3⟩ := side_gain hE3 hF3 hA3 hX4
  have rB : RowAt (gain F F3 F4) B (rowS pcC ps) := rowAt_gain hB hBf
  have rP : ∀ p ∈ ps, PcOk (gain F F3 F4) p := fun p hp => ⟨rowAt_gain (hps p hp).1.row (hps p hp).2, (hps p hp).1.len⟩
  refine short [0, 1, 2, 3, 4, 5, 13, 15, 72, 73, 75] [.slice A0 l0.length c0, .slice A1 l1.length c1, .int .u8 a2, .int .u8 a3, .slice A4 x4.length c4, .slice A5 x5.length c5, .pointer (some ⟨b, 0, none⟩), .pointer (some ⟨lb, 0, none⟩), .bool false, .pointer (some ⟨lb, 0, none⟩), .slice B ps.length bc] rfl fun ρ => ?_
  ((conv => whnf); repeat (first | (apply load_at; (conv => lhs; whnf); (with_reducible assumption); rfl; (conv => whnf)) | (apply load_at; (conv => lhs; rw [add_plain, add_plain]); (with_reducible assumption); rfl; (conv => whnf)) | (apply loads_at; (conv => lhs; whnf); (with_reducible assumption); rfl; (conv => whnf)) | (refine ⟨⟨by omega, by omega⟩, ?_⟩; (conv => whnf))))
  refine call_of (first_n (hE3.trans hX4) hL3 r1 r2 (hN.mono r3) ps B bc rB rP hf3 (by rw [hpe]; exact some_ims 1 l0 (by decide))) ?_
  rintro v F5 ⟨rfl, E5, s5_, q, cnt, hM5, hL5, u5, w5, k5, z5, hB5, hq5, wr5⟩
  have hF5 := r3.trans (hM5.keep r1 r2)
  have hA5 : Apart E5 F := fun c hc => by
    have := hM5.apart r1 r2 c hc
    cases e : F c with
    | none => rfl
    | some o => rw [r3 _ _ e] at this; cases this
  have hE5 := hM5.inn
  clear hps hpe rB rP hB hBf
  refine short [0, 1, 2, 3, 4, 5, 13, 15, 72, 76] [.slice A0 l0.length c0, .slice A1 l1.length c1, .int .u8 a2, .int .u8 a3, .slice A4 x4.length c4, .slice A5 x5.length c5, .pointer (some ⟨b, 0, none⟩), .pointer (some ⟨lb, 0, none⟩), .bool false, .int .i64 0] rfl fun ρ => ?_
  ((conv => whnf); repeat (first | (apply load_at; (conv => lhs; whnf); (with_reducible assumption); rfl; (conv => whnf)) | (apply load_at; (conv => lhs; rw [add_plain, add_plain]); (with_reducible assumption); rfl; (conv => whnf)) | (apply loads_at; (conv => lhs; whnf); (with_reducible assumption); rfl; (conv => whnf)) | (refine ⟨⟨by omega, by omega⟩, ?_⟩; (conv => whnf))))
  obtain ⟨Dd, e1, e2, e3⟩ := hL5.ext hE5
  have kA := all6 e2 e1 e3 (hN.mono hF5) u5.down
  rw [z5, pages27] at kA
  obtain ⟨W0, hW0⟩ : ∃ W, W = pgsN (pgOf 27 (secB s5_)) 13 := ⟨_, rfl⟩
  have hW0l : W0.length = 3120 := by rw [hW0, pgsN_len (pg_len 27 _)]
  replace kA : FnK Tryd.prog 28 #[.pointer (some ⟨lb, 0, none⟩)] F5 (fun v F' => ∃ S, v = .tuple #[S, .bool true] ∧ Mine F5 F' S 5 1 W0.length (bytesOf W0)) := by rw [hW0]; exact kA
  refine call_of kA ?_
  rintro v F6 ⟨S, rfl, hMS⟩
  obtain ⟨SA, Sc, rfl, hSc, hSr⟩ := hMS.own.row
  have hX56 := hMS.ext
  refine short [0, 1, 2, 3, 4, 5, 13, 15, 81] [.slice A0 l0.length c0, .slice A1 l1.length c1, .int .u8 a2, .int .u8 a3, .slice A4 x4.length c4, .slice A5 x5.length c5, .pointer (some ⟨b, 0, none⟩), .pointer (some ⟨lb, 0, none⟩), .tuple #[.slice SA W0.length Sc, .bool true]] rfl fun ρ => ?_
  ((conv => whnf); repeat (first | (apply load_at; (conv => lhs; whnf); (with_reducible assumption); rfl; (conv => whnf)) | (apply load_at; (conv => lhs; rw [add_plain, add_plain]); (with_reducible assumption); rfl; (conv => whnf)) | (apply loads_at; (conv => lhs; whnf); (with_reducible assumption); rfl; (conv => whnf)) | (refine ⟨⟨by omega, by omega⟩, ?_⟩; (conv => whnf))))
  refine call_of (clone W0 SA Sc F6 hSr (by omega)) ?_
  rintro v F7 hMT
  obtain ⟨hTl, ⟨_, hT0⟩ | ⟨g, Tc, cs0, rfl, hTL, hTs, hTn, hTt⟩⟩ := hMT.own
  · omega
  have hX57 := hX56.trans hMT.ext
  have hg5 : F5 g = none := hX56.none (hMT.fresh g rfl)
  have hg6 : F6 g = none := hMT.fresh g rfl
  have hFF7 := hF5.trans hX57
  rw [Nat.mul_one, hW0l] at hTt
  rw [Nat.mul_one] at hTs
  rw [hW0l] at hTn
  refine short [0, 1, 2, 3, 4, 5, 13, 15, 17, 18, 85] [.slice A0 l0.length c0, .slice A1 l1.length c1, .int .u8 a2, .int .u8 a3, .slice A4 x4.length c4, .slice A5 x5.length c5, .pointer (some ⟨b, 0, none⟩), .pointer (some ⟨lb, 0, none⟩), .slice SA 3120 Sc, .bool true, .slice (some ⟨g, 0, none⟩) 3120 Tc] (by rw [← hW0l]; rfl) fun ρ => ?_
  ((conv => whnf); repeat (first | (apply load_at; (conv => lhs; whnf); (with_reducible assumption); rfl; (conv => whnf)) | (apply load_at; (conv => lhs; rw [add_plain, add_plain]); (with_reducible assumption); rfl; (conv => whnf)) | (apply loads_at; (conv => lhs; whnf); (with_reducible assumption); rfl; (conv => whnf)) | (refine ⟨⟨by omega, by omega⟩, ?_⟩; (conv => whnf))))
  refine call_of (some6 l1 100 A1 c1 F7 (hr1.mono hFF7) (by omega)) ?_
  rintro v F8 ⟨⟨p2, B2, bc2, rfl, hB2, hBf2, hps2, hpe2⟩, hX8⟩
  obtain ⟨fz, hTg, hTz⟩ := hTL
  have hTg8 := hX8 _ _ hTg
  have hI2 : Ims 27 (q + 1) (p2.map pcW) := by rw [hpe2]; exact some_ims 100 l1 (by omega)
  have hl2 := hI2.len
  rw [pages27, List.length_map] at hl2
  have hG8 := lessL_ext F8 [g]
  have hGg : lessL F8 [g] g = none := by unfold lessL; rw [if_pos List.mem_cons_self]
  have hGrow : RowAt (lessL F8 [g]) B2 (rowS pcC p2) := rowAt_lessL hB2 fun a ha hm => by
    rw [List.mem_singleton] at hm
    have := hBf2 a ha
    rw [hm, hTg] at this
    cases this
  have hGok : ∀ p ∈ p2, PcOk (lessL F8 [g]) p := fun p hp => ⟨rowAt_lessL (hps2 p hp).1.row (fun a ha hm => by
    rw [List.mem_singleton] at hm
    have := (hps2 p hp).2 a ha
    rw [hm, hTg] at this
    cases this), (hps2 p hp).1.len⟩
  have hG5 : Ext F5 (lessL F8 [g]) := fun z o hz => by
    have hne : z ≠ g := fun e => by rw [e, hg5] at hz; cases hz
    unfold lessL
    rw [if_neg (by simpa using hne)]
    exact hX8 _ _ (hX57 _ _ hz)
  have hG6 : RowAt (lessL F8 [g]) SA (bytesOf W0) := rowAt_lessL (hSr.mono (hMT.ext.trans hX8)) fun a ha hm => by
    rw [List.mem_singleton] at hm
    subst ha
    cases W0 with
    | nil => cases hW0l
    | cons y W0 =>
      obtain ⟨a', e, hc⟩ := hSr 0 (.int .u8 y.toNat) rfl
      cases e
      unfold Heap.cell? at hc
      rw [show (a.add 0).block = a.block from rfl, hm, hg6] at hc
      cases hc
  generalize lessL F8 [g] = G at hG8 hGg hGrow hGok hG5 hG6
  have hpgl := pg_len 27 (secB s5_)
  have hims : ∀ x ∈ p2.map pcW, (0 ≤ x.1 ∧ x.1 < 13) ∧ x.2.length = 240 := fun x hx => ⟨by have := isPg_iff.1 (hI2.pg x hx).1; rwa [pages27] at this, (hI2.pg x hx).2⟩
  refine short [0, 1, 2, 3, 4, 5, 13, 15, 17, 18, 19, 87] [.slice A0 l0.length c0, .slice A1 l1.length c1, .int .u8 a2, .int .u8 a3, .slice A4 x4.length c4, .slice A5 x5.length c5, .pointer (some ⟨b, 0, none⟩), .pointer (some ⟨lb, 0, none⟩), .slice SA 3120 Sc, .bool true, .slice (some ⟨g, 0, none⟩) 3120 Tc, .slice B2 p2.length bc2] rfl fun ρ => ?_
  ((conv => whnf); repeat (first | (apply load_at; (conv => lhs; whnf); (with_reducible assumption); rfl; (conv => whnf)) | (apply load_at; (conv => lhs; rw [add_plain, add_plain]); (with_reducible assumption); rfl; (conv => whnf)) | (apply loads_at; (conv => lhs; whnf); (with_reducible assumption); rfl; (conv => whnf)) | (refine ⟨⟨by omega, by omega⟩, ?_⟩; (conv => whnf))))
  refine loop_slots [1, 2, 3, 4, 5, 13, 15, 17, 18, 19, 87, 88, 89] (fun k vs F' => ∃ (i : Nat) (cs : Array Value), i + k = p2.length ∧ vs = [.slice A1 l1.length c1, .int .u8 a2, .int .u8 a3, .slice A4 x4.length c4, .slice A5 x5.length c5, .pointer (some ⟨b, 0, none⟩), .pointer (some ⟨lb, 0, none⟩), .slice SA 3120 Sc, .bool true, .slice (some ⟨g, 0, none⟩) 3120 Tc, .slice B2 p2.length bc2, .int .i64 (p2.length : Int), .int .i64 (i : Int)] ∧ F' g = some (.cells cs 5 fz) ∧ cs.size = Tc ∧ cs.toList.take 3120 = bytesOf (pgsN (putAll (pgOf 27 (secB s5_)) ((p2.take i).map pcW)) 13) ∧ Ext G F') p2.length ⟨0, cs0, by omega, rfl, hTg8, hTs, by rw [hTt, hW0]; rfl, hG8⟩ ?_
  rintro k vs F9 ρ ⟨i, cs, hik, rfl, hcg, hcs, hct, hG9⟩
  ((conv => whnf); repeat (first | (apply load_at; (conv => lhs; whnf); (with_reducible assumption); rfl; (conv => whnf)) | (apply load_at; (conv => lhs; rw [add_plain, add_plain]); (with_reducible assumption); rfl; (conv => whnf)) | (apply loads_at; (conv => lhs; whnf); (with_reducible assumption); rfl; (conv => whnf)) | (refine ⟨⟨by omega, by omega⟩, ?_⟩; (conv => whnf))))
  refine cond_split (fun h => ?_) (fun h => ?_)
  · have hi : i < p2.length := by
      have h : decide ((i : Int) < (p2.length : Int)) = true := h
      have := of_decide_eq_true h
      omega
    obtain ⟨ad, rfl⟩ := hGrow.some (by rw [rowS_len pcC_len]; omega)
    have hx : p2[i]? = some p2[i] := List.getElem?_eq_getElem hi
    have hok := hGok _ (List.getElem_mem hi)
    obtain ⟨hk1, hk2⟩ := hims (pcW p2[i]) (List.mem_map_of_mem (List.getElem_mem hi))
    have htk : (p2.take (i + 1)).map pcW = (p2.take i).map pcW ++ [pcW p2[i]] := by
      rw [List.take_add_one, hx, List.map_append]
      rfl
    have hL : ∀ K : Value → Prop, K (.agg (pcC p2[i]).toArray) → LoadsK F9 (ad.add (Int.toNat (i : Int) * 2)) 2 K := fun K hk => rowS_loads pcC_len (by decide) (hGrow.mono hG9) hx hk
    generalize p2[i] = p at hok hk1 hk2 htk hL
    obtain ⟨pat, pl, pA, pc⟩ := p
    obtain ⟨m, rfl⟩ : ∃ m : Nat, pat = (m : Int) := ⟨pat.toNat, by have : 0 ≤ pat := hk1.1; omega⟩
    have hm13 : m < 13 := by have : (m : Int) < 13 := hk1.2; omega
    have hpl : pl.length = 240 := hk2
    have hrow : RowAt G pA (bytesOf pl) := hok.row
    ((conv => whnf); repeat (first | (apply load_at; (conv => lhs; whnf); (with_reducible assumption); rfl; (conv => whnf)) | (apply load_at; (conv => lhs; rw [add_plain, add_plain]); (with_reducible assumption); rfl; (conv => whnf)) | (apply loads_at; (conv => lhs; whnf); (with_reducible assumption); rfl; (conv => whnf)) | (refine ⟨⟨by omega, by omega⟩, ?_⟩; (conv => whnf))))
    refine hL _ ?_
    ((conv => whnf); repeat (first | (apply load_at; (conv => lhs; whnf); (with_reducible assumption); rfl; (conv => whnf)) | (apply load_at; (conv => lhs; rw [add_plain, add_plain]); (with_reducible assumption); rfl; (conv => whnf)) | (apply loads_at; (conv => lhs; whnf); (with_reducible assumption); rfl; (conv => whnf)) | (refine ⟨⟨by omega, by omega⟩, ?_⟩; (conv => whnf))))
    refine new_step (.cells #[.int .i64 0, .slice none 0 0] 67) rfl fun u h0_u => ?_
    have hE_u := Ext.new h0_u (.cells #[.int .i64 0, .slice none 0 0] 67)
    have hB_u := Heap.put_same F9 u (.cells #[.int .i64 0, .slice none 0 0] 67)
    generalize F9.put u _ = F10 at hE_u hB_u ⊢
    ((conv => whnf); repeat (first | (apply load_at; (conv => lhs; whnf); (with_reducible assumption); rfl; (conv => whnf)) | (apply load_at; (conv => lhs; rw [add_plain, add_plain]); (with_reducible assumption); rfl; (conv => whnf)) | (apply loads_at; (conv => lhs; whnf); (with_reducible assumption); rfl; (conv => whnf)) | (refine ⟨⟨by omega, by omega⟩, ?_⟩; (conv => whnf))))
    refine store_step u 0 _ (pcC ⟨(m : Int), pl, pA, pc⟩).toArray rfl hB_u rfl rfl (.inl (Nat.le_refl 0)) (pc_one ⟨(m : Int), pl, pA, pc⟩) ?_
    have hB11 := Heap.put_same F10 u (imO ⟨(m : Int), pl, pA, pc⟩)
    have hE11 : Ext F9 (F10.put u (imO ⟨(m : Int), pl, pA, pc⟩)) := hE_u.put h0_u _
    generalize F10.put u _ = F11 at hB11 hE11 ⊢
    have hcg11 := hE11 _ _ hcg
    have hG11 := hG9.trans hE11
    refine short [1, 2, 3, 4, 5, 13, 15, 17, 18, 19, 21, 87, 88, 89] [.slice A1 l1.length c1, .int .u8 a2, .int .u8 a3, .slice A4 x4.length c4, .slice A5 x5.length c5, .pointer (some ⟨b, 0, none⟩), .pointer (some ⟨lb, 0, none⟩), .slice SA 3120 Sc, .bool true, .slice (some ⟨g, 0, none⟩) 3120 Tc, .pointer (some ⟨u, 0, none⟩), .slice (some ad) p2.length bc2, .int .i64 (p2.length : Int), .int .i64 (i : Int)] rfl fun ρ => ?_
    ((conv => whnf); repeat (first | (apply load_at; (conv => lhs; whnf); (with_reducible assumption); rfl; (conv => whnf)) | (apply load_at; (conv => lhs; rw [add_plain, add_plain]); (with_reducible assumption); rfl; (conv => whnf)) | (apply loads_at; (conv => lhs; whnf); (with_reducible assumption); rfl; (conv => whnf)) | (refine ⟨⟨by omega, by omega⟩, ?_⟩; (conv => whnf))))
    refine draw_tree_at tab_ok (by kernel_rfl) [] (DT.row [0, 1, 2, 3, 4, 5, 6, 7] .nil) (by kernel_rfl) (lessL F11 [g]) (lessL_ext F11 [g]) ?_
    ((conv => whnf); repeat (first | (apply load_at; (conv => lhs; whnf); (with_reducible assumption); rfl; (conv => whnf)) | (apply load_at; (conv => lhs; rw [add_plain, add_plain]); (with_reducible assumption); rfl; (conv => whnf)) | (apply loads_at; (conv => lhs; whnf); (with_reducible assumption); rfl; (conv => whnf)) | (refine ⟨⟨by omega, by omega⟩, ?_⟩; (conv => whnf))))
    have hw : IntKind.i64.wrap ((m : Int) * 240) = ((m * 240 : Nat) : Int) := by rw [wrap_eq (by omega) (by omega)]; omega
    refine ⟨⟨?_, ?_⟩, ?_⟩
    · show 0 ≤ IntKind.i64.wrap ((m : Int) * 240)
      rw [hw]; omega
    · show IntKind.i64.wrap ((m : Int) * 240) ≤ ((3120 : Nat) : Int)
      rw [hw]; omega
    ((conv => whnf); repeat (first | (apply load_at; (conv => lhs; whnf); (with_reducible assumption); rfl; (conv => whnf)) | (apply load_at; (conv => lhs; rw [add_plain, add_plain]); (with_reducible assumption); rfl; (conv => whnf)) | (apply loads_at; (conv => lhs; whnf); (with_reducible assumption); rfl; (conv => whnf)) | (refine ⟨⟨by omega, by omega⟩, ?_⟩; (conv => whnf))))
    have hlen : (bytesOf pl).length = 240 := by rw [bytes_len, hpl]
    refine copy_rows (N := 240) (g := g) (off := m * 240) (dl := 3120 - m * 240) (dc := Tc - m * 240) (m := pl.length) (c := pc) (A := pA) (ys := bytesOf pl) (cur := cs) (fz := fz) tab_ok rfl ?hp rfl rfl rfl (hrow.mono hG11) (by rw [hlen]; rfl) hcg11 (hTz.imp id fun h => by omega) (by omega) (by show m * 240 + 240 * 1 ≤ cs.size; omega) (hone_bytes _) ?_
    case hp =>
      conv => lhs; whnf
      refine slice_eq ?_ ?_ ?_
      · show (if Tc - 0 = (IntKind.i64.wrap ((m : Int) * 240)).toNat then some (⟨g, 0, none⟩ : Addr) else some (Addr.add ⟨g, 0, none⟩ ((IntKind.i64.wrap ((m : Int) * 240)).toNat * 1))) = _
        rw [hw, Int.toNat_natCast, if_neg (by omega), add_plain, Nat.zero_add, Nat.mul_one]
      · show 3120 - (IntKind.i64.wrap ((m : Int) * 240)).toNat = 3120 - m * 240
        rw [hw, Int.toNat_natCast]
      · show Tc - (IntKind.i64.wrap ((m : Int) * 240)).toNat = Tc - m * 240
        rw [hw, Int.toNat_natCast]
    have hB12 := Heap.put_same F11 g (.cells (putL cs.toList (m * 240) (bytesOf pl)).toArray 5 fz)
    have hG12 : Ext G (F11.put g (.cells (putL cs.toList (m * 240) (bytesOf pl)).toArray 5 fz)) := hG11.put hGg _
    have hX12 : Ext (lessL F11 [g]) (F11.put g (.cells (putL cs.toList (m * 240) (bytesOf pl)).toArray 5 fz)) := (lessL_ext F11 [g]).put (by unfold lessL; rw [if_pos List.mem_cons_self]) _
    generalize F11.put g _ = F12 at hB12 hG12 hX12 ⊢
    ((conv => whnf); repeat (first | (apply load_at; (conv => lhs; whnf); (with_reducible assumption); rfl; (conv => whnf)) | (apply load_at; (conv => lhs; rw [add_plain, add_plain]); (with_reducible assumption); rfl; (conv => whnf)) | (apply loads_at; (conv => lhs; whnf); (with_reducible assumption); rfl; (conv => whnf)) | (refine ⟨⟨by omega, by omega⟩, ?_⟩; (conv => whnf))))
    refine ⟨hX12, ?_⟩
    ((conv => whnf); repeat (first | (apply load_at; (conv => lhs; whnf); (with_reducible assumption); rfl; (conv => whnf)) | (apply load_at; (conv => lhs; rw [add_plain, add_plain]); (with_reducible assumption); rfl; (conv => whnf)) | (apply loads_at; (conv => lhs; whnf); (with_reducible assumption); rfl; (conv => whnf)) | (refine ⟨⟨by omega, by omega⟩, ?_⟩; (conv => whnf))))
    refine ⟨k - 1, by omega, i + 1, (putL cs.toList (m * 240) (bytesOf pl)).toArray, by omega, ?_, hB12, ?_, ?_, hG12⟩
    · rw [← wrap_succ (j := i) (by omega)]
      rfl
    · rw [List.size_toArray, length_putL, Array.length_toList, hcs]
    · rw [List.toList_toArray, putL_cut (by rw [hlen]; omega) (by rw [Array.length_toList, hcs]; exact hTn), hct, htk, putAll_app]
      have hp := pgs_put (g := putAll (pgOf 27 (secB s5_)) ((p2.take i).map pcW)) (putAll_len hpgl _ fun x hx => by
        obtain ⟨y, hy, rfl⟩ := List.mem_map.1 hx
        exact (hims (pcW y) (List.mem_map_of_mem (List.mem_of_mem_take hy))).2) hpl 13 m hm13
      have hp2 : putAll (putAll (pgOf 27 (secB s5_)) ((p2.take i).map pcW)) [pcW ⟨(m : Int), pl, pA, pc⟩] = fun k => if k = (m : Int) then pl else putAll (pgOf 27 (secB s5_)) ((p2.take i).map pcW) k := rfl
      rw [hp2, hp, bytes_app, bytes_app, hlen, show ∀ (x : List UInt8) n, bytesOf (x.take n) = (bytesOf x).take n from fun x n => List.map_take, show ∀ (x : List UInt8) n, bytesOf (x.drop n) = (bytesOf x).drop n from fun x n => List.map_drop]
  · have hi : i = p2.length := by
      have := of_decide_eq_false h
      omega
    rw [show p2.take i = p2 from List.take_of_length_le (by omega)] at hct
    obtain ⟨NW, hNW⟩ : ∃ W, W = pgsN (putAll (pgOf 27 (secB s5_)) (p2.map pcW)) 13 := ⟨_, rfl⟩
    have hNWl : NW.length = 3120 := by rw [hNW, pgsN_len (putAll_len hpgl _ fun x hx => (hims x hx).2)]
    rw [← hNW] at hct
    have hE9 : Ext E5 F9 := hE5.trans (hG5.trans hG9)
    have hrNW : RowAt F9 (some ⟨g, 0, none⟩) (bytesOf NW) := by
      have := (row_blk hcg).take 3120
      rw [hct] at this
      exact this
    have hrW0 := hG6.mono hG9
    have hFG := hF5.trans hG5
    refine short [1, 2, 3, 4, 5, 13, 15, 17, 18, 19] [.slice A1 l1.length c1, .int .u8 a2, .int .u8 a3, .slice A4 x4.length c4, .slice A5 x5.length c5, .pointer (some ⟨b, 0, none⟩), .pointer (some ⟨lb, 0, none⟩), .slice SA 3120 Sc, .bool true, .slice (some ⟨g, 0, none⟩) 3120 Tc] rfl fun ρ => ?_
    have hrW0' := rest_row (E := E5) hrW0 fun a ha => hE5.none (hMS.fresh a.block (by rw [ha]; rfl))
    have hrNW' := rest_row (E := E5) hrNW fun a ha => by
      injection ha with ha
      subst ha
      exact hE5.none hg5
    have hFR := rest_keep (hFG.trans hG9) hA5
    have hR9 := rest_ext E5 F9
    have hAR9 := rest_apart E5 F9
    generalize rest E5 F9 = R9 at hrW0' hrNW' hFR hR9 hAR9
    have hF9' := hFG.trans hG9
    clear hcg hct hcs hG9 hG5 hG6 hG8 hGg hGrow hGok hps2 hTg8 hrW0 hrNW hFG
    obtain ⟨D9, q1, q2, q3, q4⟩ := lg_disk hE9 hL5
    ((conv => whnf); repeat (first | (apply load_at; (conv => lhs; whnf); (with_reducible assumption); rfl; (conv => whnf)) | (apply load_at; (conv => lhs; rw [add_plain, add_plain]); (with_reducible assumption); rfl; (conv => whnf)) | (apply loads_at; (conv => lhs; whnf); (with_reducible assumption); rfl; (conv => whnf)) | (refine ⟨⟨by omega, by omega⟩, ?_⟩; (conv => whnf))))
    refine ⟨by decide, ?_⟩
    ((conv => whnf); repeat (first | (apply load_at; (conv => lhs; whnf); (with_reducible assumption); rfl; (conv => whnf)) | (apply load_at; (conv => lhs; rw [add_plain, add_plain]); (with_reducible assumption); rfl; (conv => whnf)) | (apply loads_at; (conv => lhs; whnf); (with_reducible assumption); rfl; (conv => whnf)) | (refine ⟨⟨by omega, by omega⟩, ?_⟩; (conv => whnf))))
    have hi2 : IntKind.i64.wrap (a2.tmod 40) = a2.tmod 40 := by
      rw [Int.tmod_eq_emod_of_nonneg hu2.1]
      exact wrap_eq (by omega) (by omega)
    have hi2b : a2.tmod 40 ≤ 9223372036854775807 := by rw [Int.tmod_eq_emod_of_nonneg hu2.1]; omega
    rw [hi2]
    refine call_of (arms q1 q2 (a2.tmod 40) hi2b) ?_
    rintro v F10 ⟨rfl, D10, hM10, hD10⟩
    obtain ⟨E10, hM10', hL10⟩ := q4 hM10 hD10
    have hR10 := hM10'.keep hR9 hAR9
    have hA10 := hM10'.apart hR9 hAR9
    have hE10 := hM10'.inn
    obtain ⟨s6, hs6⟩ : ∃ s6 : DS, s6 = { s5_ with armed := decide (a2.tmod 40 ≥ 0), left := max (a2.tmod 40) 0 } := ⟨_, rfl⟩
    rw [← hs6] at hL10 hD10
    have g1 : s6.size = 27 := by rw [hs6]; exact z5
    have g2 : secB s6 = secB s5_ := by rw [hs6]; rfl
    have g3 : s6.down = false := by rw [hs6]; exact u5.down
    have g4 : Go.Proofs.YtmpiggcooboenaaDoor.Al.Calm s6 := by rw [hs6]; exact ⟨k5.fresh, k5.order⟩
    have g5 : s6.writes ≤ 1000 := by rw [hs6]; show s5_.writes ≤ 1000; omega
    have g6 : DWf s6 := hD10.1
    clear hs6 hD10 hM10 q1 q2 q3 q4
    obtain ⟨cnt', q', X, Y, pg, h1, h2, h3, h4, h5, h6, h7, h8⟩ := second_way g1 (by rw [g2]; exact hB5) g3 g6 g4 hI2 g5 x4
    rw [g2, ← hNW, ← hW0] at h8
    refine short [1, 2, 3, 4, 5, 13, 15, 17, 18, 19] [.slice A1 l1.length c1, .int .u8 a2, .int .u8 a3, .slice A4 x4.length c4, .slice A5 x5.length c5, .pointer (some ⟨b, 0, none⟩), .pointer (some ⟨lb, 0, none⟩), .slice SA 3120 Sc, .bool true, .slice (some ⟨g, 0, none⟩) 3120 Tc] rfl fun ρ => ?_
    ((conv => whnf); repeat (first | (apply load_at; (conv => lhs; whnf); (with_reducible assumption); rfl; (conv => whnf)) | (apply load_at; (conv => lhs; rw [add_plain, add_plain]); (with_reducible assumption); rfl; (conv => whnf)) | (apply loads_at; (conv => lhs; whnf); (with_reducible assumption); rfl; (conv => whnf)) | (refine ⟨⟨by omega, by omega⟩, ?_⟩; (conv => whnf))))
    refine call_of (some6 l1 100 A1 c1 F10 (hr1.mono (hFR.trans hR10)) (by omega)) ?_
    rintro v F11 ⟨⟨p3, B3, bc3, rfl, hB3, hBf3, hps3, hpe3⟩, hX11⟩
    obtain ⟨r1, r2, r3⟩ := side_gain hE10 hR10 hA10 hX11
    have rB : RowAt (gain R9 F10 F11) B3 (rowS pcC p3) := rowAt_gain hB3 hBf3
    have rP : ∀ p ∈ p3, PcOk (gain R9 F10 F11) p := fun p hp => ⟨rowAt_gain (hps3 p hp).1.row (hps3 p hp).2, (hps3 p hp).1.len⟩
    have h32 : p3.map pcW = p2.map pcW := by rw [hpe3, hpe2]
    have hl3 : p3.length ≤ 100000 := by
      have := congrArg List.length h32
      rw [List.length_map, List.length_map] at this
      omega
    have kC := lgCommit (hE10.trans hX11) hL10 r1 r2 (hN.mono (hFR.trans r3)) p3 B3 bc3 rB rP (by omega) hl3
    rw [h32] at kC
    generalize gain R9 F10 F11 = R11 at r1 r2 r3 rB rP kC
    generalize commitS dsO s6 q (p2.map pcW) = cs6 at kC h1 h2 h3 h4 h5 h7 h8
    obtain ⟨s7, e7, q7⟩ := cs6
    dsimp only at kC h1 h2 h3 h4 h5 h7 h8
    refine short [2, 3, 4, 5, 13, 15, 17, 18, 19, 107, 109] [.int .u8 a2, .int .u8 a3, .slice A4 x4.length c4, .slice A5 x5.length c5, .pointer (some ⟨b, 0, none⟩), .pointer (some ⟨lb, 0, none⟩), .slice SA 3120 Sc, .bool true, .slice (some ⟨g, 0, none⟩) 3120 Tc, .pointer (some ⟨lb, 0, none⟩), .slice B3 p3.length bc3] rfl fun ρ => ?_
    ((conv => whnf); repeat (first | (apply load_at; (conv => lhs; whnf); (with_reducible assumption); rfl; (conv => whnf)) | (apply load_at; (conv => lhs; rw [add_plain, add_plain]); (with_reducible assumption); rfl; (conv => whnf)) | (apply loads_at; (conv => lhs; whnf); (with_reducible assumption); rfl; (conv => whnf)) | (refine ⟨⟨by omega, by omega⟩, ?_⟩; (conv => whnf))))
    refine call_of kC ?_
    rintro v F12 ⟨rfl, E12, hM12, hL12⟩
    have hR12 := r3.trans (hM12.keep r1 r2)
    have hA12 : Apart E12 R9 := (hM12.apart r1 r2).symm.mono r3 |>.symm
    have hE12 := hM12.inn
    obtain ⟨D12, q1, q2, q3, _⟩ := lg_disk hE12 hL12
    have hA12' := hA12.mono q3
    refine short [3, 4, 5, 13, 17, 18, 19, 110] [.int .u8 a3, .slice A4 x4.length c4, .slice A5 x5.length c5, .pointer (some ⟨b, 0, none⟩), .slice SA 3120 Sc, .bool true, .slice (some ⟨g, 0, none⟩) 3120 Tc, .int .i64 e7] rfl fun ρ => ?_
    ((conv => whnf); repeat (first | (apply load_at; (conv => lhs; whnf); (with_reducible assumption); rfl; (conv => whnf)) | (apply load_at; (conv => lhs; rw [add_plain, add_plain]); (with_reducible assumption); rfl; (conv => whnf)) | (apply loads_at; (conv => lhs; whnf); (with_reducible assumption); rfl; (conv => whnf)) | (refine ⟨⟨by omega, by omega⟩, ?_⟩; (conv => whnf))))
    refine call_of (crash q1 q2 hR12 hA12' x4 A4 c4 (hr4.mono hFR) (by omega)) ?_
    rintro v F13 ⟨rfl, D13, hM13, hD13⟩
    have hR13 := hM13.keep hR12 hA12'
    have hA13 := hM13.apart hR12 hA12'
    refine short [3, 5, 13, 17, 18, 19, 22] [.int .u8 a3, .slice A5 x5.length c5, .pointer (some ⟨b, 0, none⟩), .slice SA 3120 Sc, .bool true, .slice (some ⟨g, 0, none⟩) 3120 Tc, .bool (e7 == 0)] rfl fun ρ => ?_
    ((conv => whnf); repeat (first | (apply load_at; (conv => lhs; whnf); (with_reducible assumption); rfl; (conv => whnf)) | (apply load_at; (conv => lhs; rw [add_plain, add_plain]); (with_reducible assumption); rfl; (conv => whnf)) | (apply loads_at; (conv => lhs; whnf); (with_reducible assumption); rfl; (conv => whnf)) | (refine ⟨⟨by omega, by omega⟩, ?_⟩; (conv => whnf))))
    refine ⟨by decide, ?_⟩
    ((conv => whnf); repeat (first | (apply load_at; (conv => lhs; whnf); (with_reducible assumption); rfl; (conv => whnf)) | (apply load_at; (conv => lhs; rw [add_plain, add_plain]); (with_reducible assumption); rfl; (conv => whnf)) | (apply loads_at; (conv => lhs; whnf); (with_reducible assumption); rfl; (conv => whnf)) | (refine ⟨⟨by omega, by omega⟩, ?_⟩; (conv => whnf))))
    have hi3 : IntKind.i64.wrap (a3.tmod 40) = a3.tmod 40 := by
      rw [Int.tmod_eq_emod_of_nonneg hu3.1]
      exact wrap_eq (by omega) (by omega)
    have hi3b : a3.tmod 40 ≤ 9223372036854775807 := by rw [Int.tmod_eq_emod_of_nonneg hu3.1]; omega
    rw [hi3]
    refine call_of (arms hM13.inn hD13 (a3.tmod 40) hi3b) ?_
    rintro v F14 ⟨rfl, D14, hM14, hD14⟩
    have hR14 := hM14.keep hR13 hA13
    have hA14 := hM14.apart hR13 hA13
    have hE14 := hM14.inn
    generalize crashS s7 x4 = s8 at h1 h2 h3 h4 h5 h7 hD14
    obtain ⟨s9, hs9⟩ : ∃ s9 : DS, s9 = { s8 with armed := decide (a3.tmod 40 ≥ 0), left := max (a3.tmod 40) 0 } := ⟨_, rfl⟩
    rw [← hs9] at hD14
    have m1 : s9.size = 27 := by rw [hs9]; exact h4
    have m2 : secB s9 = secB s8 := by rw [hs9]; rfl
    have m3 : s9.down = false := by rw [hs9]; exact h1.down
    have m4 : Go.Proofs.YtmpiggcooboenaaDoor.Al.Calm s9 := by rw [hs9]; exact ⟨h3.fresh, h3.order⟩
    have m5 : s9.writes ≤ 200000 := by rw [hs9]; exact h5
    have m6 : DWf s9 := hD14.1
    clear hs9 h1 h2 h3 h4 h5
    rw [← m2] at h7
    have kO := redoOpen hE14 hD14 (hN.mono (hFR.trans hR14)) (by omega)
    obtain ⟨n1, n2, n3, n4, n5, n6, n7⟩ := open_mid (s := s9) (by rw [m1]; exact h6.x) m3 m6 m4 (by omega) h7 x5
    generalize openS dsO s9 = o9 at kO n1 n2 n3 n4 n5 n6 n7
    obtain ⟨s10, e10, q10⟩ := o9
    dsimp only at kO n1 n2 n3 n4 n5 n6 n7
    refine short [5, 13, 17, 18, 19, 22] [.slice A5 x5.length c5, .pointer (some ⟨b, 0, none⟩), .slice SA 3120 Sc, .bool true, .slice (some ⟨g, 0, none⟩) 3120 Tc, .bool (e7 == 0)] rfl fun ρ => ?_
    ((conv => whnf); repeat (first | (apply load_at; (conv => lhs; whnf); (with_reducible assumption); rfl; (conv => whnf)) | (apply load_at; (conv => lhs; rw [add_plain, add_plain]); (with_reducible assumption); rfl; (conv => whnf)) | (apply loads_at; (conv => lhs; whnf); (with_reducible assumption); rfl; (conv => whnf)) | (refine ⟨⟨by omega, by omega⟩, ?_⟩; (conv => whnf))))
    refine call_of kO ?_
    rintro v F15 ⟨w15, D15, rfl, hM15, hD15, _⟩
    have hR15 := hM15.keep hR14 hA14
    have hA15 := hM15.apart hR14 hA14
    refine short [5, 13, 17, 18, 19, 22] [.slice A5 x5.length c5, .pointer (some ⟨b, 0, none⟩), .slice SA 3120 Sc, .bool true, .slice (some ⟨g, 0, none⟩) 3120 Tc, .bool (e7 == 0)] rfl fun ρ => ?_
    ((conv => whnf); repeat (first | (apply load_at; (conv => lhs; whnf); (with_reducible assumption); rfl; (conv => whnf)) | (apply load_at; (conv => lhs; rw [add_plain, add_plain]); (with_reducible assumption); rfl; (conv => whnf)) | (apply loads_at; (conv => lhs; whnf); (with_reducible assumption); rfl; (conv => whnf)) | (refine ⟨⟨by omega, by omega⟩, ?_⟩; (conv => whnf))))
    refine call_of (crash hM15.inn hD15 hR15 hA15 x5 A5 c5 (hr5.mono hFR) (by omega)) ?_
    rintro v F16 ⟨rfl, D16, hM16, hD16⟩
    have hR16 := hM16.keep hR15 hA15
    have hA16 := hM16.apart hR15 hA15
    generalize crashS s10 x5 = s11 at n1 n2 n3 n4 n5 n6 hD16
    rw [m1] at n4
    refine short [13, 17, 18, 19, 22] [.pointer (some ⟨b, 0, none⟩), .slice SA 3120 Sc, .bool true, .slice (some ⟨g, 0, none⟩) 3120 Tc, .bool (e7 == 0)] rfl fun ρ => ?_
    ((conv => whnf); repeat (first | (apply load_at; (conv => lhs; whnf); (with_reducible assumption); rfl; (conv => whnf)) | (apply load_at; (conv => lhs; rw [add_plain, add_plain]); (with_reducible assumption); rfl; (conv => whnf)) | (apply loads_at; (conv => lhs; whnf); (with_reducible assumption); rfl; (conv => whnf)) | (refine ⟨⟨by omega, by omega⟩, ?_⟩; (conv => whnf))))
    refine call_of (open_n hM16.inn hD16 (hN.mono (hFR.trans hR16)) (X := X) (cnt := cnt') (q := q') (by rw [n4]; exact h6.x) n1 n3 (by omega) n5) ?_
    rintro v F17 ⟨lb2, E17, s12, rfl, hM17, hL17, u17, w17, c17, z17, x17, wr17, go17⟩
    have hR17 := hM17.keep hR16 hA16
    have hA17 := hM17.apart hR16 hA16
    have hE17 := hM17.inn
    rw [n4] at z17 go17
    have hY17 := h6.go _ _ n5 x17 fun ws hws => (go17 ws hws).1
    clear go17
    have hpg : pgsN (pgOf 27 (secB s12)) 13 = pgsN pg 13 := pgsN_congr 13 fun p hp => h6.at_ _ hY17 p (isPg_iff.2 (by rw [pages27]; omega))
    obtain ⟨D17, q1, q2, q3, q4⟩ := lg_disk hE17 hL17
    obtain ⟨D17', e1, e2, e3⟩ := hL17.ext hE17
    have kG := all6 e2 e1 e3 (hN.mono (hFR.trans hR17)) u17.down
    rw [z17, pages27] at kG
    obtain ⟨GW, hGW⟩ : ∃ W, W = pgsN pg 13 := ⟨_, rfl⟩
    have hGWl : GW.length = 3120 := by rw [hGW, ← hpg, pgsN_len (pg_len 27 _)]
    replace kG : FnK Tryd.prog 28 #[.pointer (some ⟨lb2, 0, none⟩)] F17 (fun v F' => ∃ S, v = .tuple #[S, .bool true] ∧ Mine F17 F' S 5 1 GW.length (bytesOf GW)) := by rw [hGW, ← hpg]; exact kG
    rw [← hGW] at h8
    refine short [13, 17, 18, 19, 22, 127] [.pointer (some ⟨b, 0, none⟩), .slice SA 3120 Sc, .bool true, .slice (some ⟨g, 0, none⟩) 3120 Tc, .bool (e7 == 0), .tuple #[.pointer (some ⟨lb2, 0, none⟩), .int .i64 0]] rfl fun ρ => ?_
    ((conv => whnf); repeat (first | (apply load_at; (conv => lhs; whnf); (with_reducible assumption); rfl; (conv => whnf)) | (apply load_at; (conv => lhs; rw [add_plain, add_plain]); (with_reducible assumption); rfl; (conv => whnf)) | (apply loads_at; (conv => lhs; whnf); (with_reducible assumption); rfl; (conv => whnf)) | (refine ⟨⟨by omega, by omega⟩, ?_⟩; (conv => whnf))))
    refine call_of kG ?_
    rintro v F18 ⟨S18, rfl, hM18⟩
    obtain ⟨GA, Gc, rfl, hGc, hGr⟩ := hM18.own.row
    obtain ⟨r1, r2, r3⟩ := side_gain hE17 hR17 hA17 hM18.ext
    have hGr18 : RowAt (gain R9 F17 F18) GA (bytesOf GW) := rowAt_gain hGr fun a ha => hM18.fresh a.block (by rw [ha]; rfl)
    generalize gain R9 F17 F18 = R18 at r1 r2 r3 hGr18
    have q1' := q1.trans hM18.ext
    have r2' := r2.mono q3
    refine short [13, 17, 19, 22, 142] [.pointer (some ⟨b, 0, none⟩), .slice SA 3120 Sc, .slice (some ⟨g, 0, none⟩) 3120 Tc, .bool (e7 == 0), .tuple #[.slice GA GW.length Gc, .bool true]] rfl fun ρ => ?_
    ((conv => whnf); repeat (first | (apply load_at; (conv => lhs; whnf); (with_reducible assumption); rfl; (conv => whnf)) | (apply load_at; (conv => lhs; rw [add_plain, add_plain]); (with_reducible assumption); rfl; (conv => whnf)) | (apply loads_at; (conv => lhs; whnf); (with_reducible assumption); rfl; (conv => whnf)) | (refine ⟨⟨by omega, by omega⟩, ?_⟩; (conv => whnf))))
    refine call_of (open_n q1' q2 (hN.mono (hFR.trans (r3.trans r1))) (X := Y) (cnt := cnt') (q := q') (by rw [z17]; exact h6.y) u17 c17 (by omega) hY17) ?_
    rintro v F19 ⟨lb3, E19, s13, rfl, hM19, hL19, u19, w19, c19, z19, x19, _, _⟩
    have hR19 := hM19.keep r1 r2'
    have hE19 := hM19.inn
    rw [z17] at z19
    have hpg2 : pgsN (pgOf 27 (secB s13)) 13 = GW := by
      rw [hGW]
      exact pgsN_congr 13 fun p hp => h6.at_ _ x19 p (isPg_iff.2 (by rw [pages27]; omega))
    have hF19 := (hFR.trans r3).trans hR19
    have rG := hGr18.mono hR19
    have rN := hrNW'.mono (r3.trans hR19)
    have rW := hrW0'.mono (r3.trans hR19)
    obtain ⟨D19, f1, f2, f3⟩ := hL19.ext hE19
    have kL := all6 f2 f1 f3 (hN.mono hF19) u19.down
    rw [z19, pages27, show (13 : Int).toNat = 13 from rfl, hpg2] at kL
    refine short [17, 19, 22, 23, 24, 147] [.slice SA 3120 Sc, .slice (some ⟨g, 0, none⟩) 3120 Tc, .bool (e7 == 0), .slice GA GW.length Gc, .bool true, .tuple #[.pointer (some ⟨lb3, 0, none⟩), .int .i64 0]] rfl fun ρ => ?_
    have kN := fun F h1 h2 => bytesEqual GW NW GA (some ⟨g, 0, none⟩) Gc Tc F h1 h2
    have kW := fun F h1 h2 => bytesEqual GW W0 GA SA Gc Sc F h1 h2
    rw [hNWl] at kN
    rw [hW0l] at kW
    have kA2 : ∀ {F'' S}, Mine F19 F'' S 5 1 GW.length (bytesOf GW) → ∃ A2 c2, S = .slice A2 GW.length c2 ∧ FnK Tryd.prog 32 #[.slice A2 GW.length c2, .slice GA GW.length Gc] F'' (fun v F' => v = .bool true ∧ F' = F'') := fun {F'' S} hm => by
      obtain ⟨A2, c2, rfl, _, hr⟩ := hm.own.row
      refine ⟨A2, c2, rfl, ?_⟩
      have := bytesEqual GW GW A2 GA c2 Gc F'' hr (rG.mono hm.ext)
      rw [beq_self_eq_true] at this
      exact this
    cases hd : (e7 == 0) with
    | true =>
      have hGN : GW = NW := by
        rcases h8 with e | ⟨_, e⟩
        · exact e
        · exact absurd (by simpa using hd) e
      have kT := kN F19 rG rN
      rw [hGN, beq_self_eq_true, ← hGN] at kT
      ((conv => whnf); repeat (first | (apply load_at; (conv => lhs; whnf); (with_reducible assumption); rfl; (conv => whnf)) | (apply load_at; (conv => lhs; rw [add_plain, add_plain]); (with_reducible assumption); rfl; (conv => whnf)) | (apply loads_at; (conv => lhs; whnf); (with_reducible assumption); rfl; (conv => whnf)) | (refine ⟨⟨by omega, by omega⟩, ?_⟩; (conv => whnf))))
      refine call_of kT ?_
      rintro v F19 ⟨rfl, rfl⟩
      refine short [15, 17, 19, 23, 160, 162, 165] [.pointer (some ⟨lb3, 0, none⟩), .slice SA 3120 Sc, .slice (some ⟨g, 0, none⟩) 3120 Tc, .slice GA GW.length Gc, .bool false, .bool true, .bool true] rfl fun ρ => ?_
      ((conv => whnf); repeat (first | (apply load_at; (conv => lhs; whnf); (with_reducible assumption); rfl; (conv => whnf)) | (apply load_at; (conv => lhs; rw [add_plain, add_plain]); (with_reducible assumption); rfl; (conv => whnf)) | (apply loads_at; (conv => lhs; whnf); (with_reducible assumption); rfl; (conv => whnf)) | (refine ⟨⟨by omega, by omega⟩, ?_⟩; (conv => whnf))))
      refine call_of kT ?_
      rintro v F19 ⟨rfl, rfl⟩
      refine short [15, 23, 169, 172] [.pointer (some ⟨lb3, 0, none⟩), .slice GA GW.length Gc, .bool false, .bool true] rfl fun ρ => ?_
      ((conv => whnf); repeat (first | (apply load_at; (conv => lhs; whnf); (with_reducible assumption); rfl; (conv => whnf)) | (apply load_at; (conv => lhs; rw [add_plain, add_plain]); (with_reducible assumption); rfl; (conv => whnf)) | (apply loads_at; (conv => lhs; whnf); (with_reducible assumption); rfl; (conv => whnf)) | (refine ⟨⟨by omega, by omega⟩, ?_⟩; (conv => whnf))))
      refine call_of kL ?_
      rintro v F20 ⟨S20, rfl, hM20⟩
      obtain ⟨A2, c2, rfl, kE⟩ := kA2 hM20
      refine short [23, 183] [.slice GA GW.length Gc, .tuple #[.slice A2 GW.length c2, .bool true]] rfl fun ρ => ?_
      ((conv => whnf); repeat (first | (apply load_at; (conv => lhs; whnf); (with_reducible assumption); rfl; (conv => whnf)) | (apply load_at; (conv => lhs; rw [add_plain, add_plain]); (with_reducible assumption); rfl; (conv => whnf)) | (apply loads_at; (conv => lhs; whnf); (with_reducible assumption); rfl; (conv => whnf)) | (refine ⟨⟨by omega, by omega⟩, ?_⟩; (conv => whnf))))
      refine call_of kE ?_
      rintro v F20 ⟨rfl, rfl⟩
      ((conv => whnf); repeat (first | (apply load_at; (conv => lhs; whnf); (with_reducible assumption); rfl; (conv => whnf)) | (apply load_at; (conv => lhs; rw [add_plain, add_plain]); (with_reducible assumption); rfl; (conv => whnf)) | (apply loads_at; (conv => lhs; whnf); (with_reducible assumption); rfl; (conv => whnf)) | (refine ⟨⟨by omega, by omega⟩, ?_⟩; (conv => whnf))))
      refine call_of (out F20 (hF19.trans hM20.ext)) ?_
      rintro v F21 ⟨rfl, hE21⟩
      ((conv => whnf); repeat (first | (apply load_at; (conv => lhs; whnf); (with_reducible assumption); rfl; (conv => whnf)) | (apply load_at; (conv => lhs; rw [add_plain, add_plain]); (with_reducible assumption); rfl; (conv => whnf)) | (apply loads_at; (conv => lhs; whnf); (with_reducible assumption); rfl; (conv => whnf)) | (refine ⟨⟨by omega, by omega⟩, ?_⟩; (conv => whnf))))
      exact ⟨rfl, hE21⟩
    | false =>
      ((conv => whnf); repeat (first | (apply load_at; (conv => lhs; whnf); (with_reducible assumption); rfl; (conv => whnf)) | (apply load_at; (conv => lhs; rw [add_plain, add_plain]); (with_reducible assumption); rfl; (conv => whnf)) | (apply loads_at; (conv => lhs; whnf); (with_reducible assumption); rfl; (conv => whnf)) | (refine ⟨⟨by omega, by omega⟩, ?_⟩; (conv => whnf))))
      cases hb : (GW == NW) with
      | true =>
        have kT := kN F19 rG rN
        rw [hb] at kT
        refine call_of kT ?_
        rintro v F19 ⟨rfl, rfl⟩
        refine short [15, 23, 169, 172] [.pointer (some ⟨lb3, 0, none⟩), .slice GA GW.length Gc, .bool false, .bool true] rfl fun ρ => ?_
        ((conv => whnf); repeat (first | (apply load_at; (conv => lhs; whnf); (with_reducible assumption); rfl; (conv => whnf)) | (apply load_at; (conv => lhs; rw [add_plain, add_plain]); (with_reducible assumption); rfl; (conv => whnf)) | (apply loads_at; (conv => lhs; whnf); (with_reducible assumption); rfl; (conv => whnf)) | (refine ⟨⟨by omega, by omega⟩, ?_⟩; (conv => whnf))))
        refine call_of kL ?_
        rintro v F20 ⟨S20, rfl, hM20⟩
        obtain ⟨A2, c2, rfl, kE⟩ := kA2 hM20
        refine short [23, 183] [.slice GA GW.length Gc, .tuple #[.slice A2 GW.length c2, .bool true]] rfl fun ρ => ?_
        ((conv => whnf); repeat (first | (apply load_at; (conv => lhs; whnf); (with_reducible assumption); rfl; (conv => whnf)) | (apply load_at; (conv => lhs; rw [add_plain, add_plain]); (with_reducible assumption); rfl; (conv => whnf)) | (apply loads_at; (conv => lhs; whnf); (with_reducible assumption); rfl; (conv => whnf)) | (refine ⟨⟨by omega, by omega⟩, ?_⟩; (conv => whnf))))
        refine call_of kE ?_
        rintro v F20 ⟨rfl, rfl⟩
        ((conv => whnf); repeat (first | (apply load_at; (conv => lhs; whnf); (with_reducible assumption); rfl; (conv => whnf)) | (apply load_at; (conv => lhs; rw [add_plain, add_plain]); (with_reducible assumption); rfl; (conv => whnf)) | (apply loads_at; (conv => lhs; whnf); (with_reducible assumption); rfl; (conv => whnf)) | (refine ⟨⟨by omega, by omega⟩, ?_⟩; (conv => whnf))))
        refine call_of (out F20 (hF19.trans hM20.ext)) ?_
        rintro v F21 ⟨rfl, hE21⟩
        ((conv => whnf); repeat (first | (apply load_at; (conv => lhs; whnf); (with_reducible assumption); rfl; (conv => whnf)) | (apply load_at; (conv => lhs; rw [add_plain, add_plain]); (with_reducible assumption); rfl; (conv => whnf)) | (apply loads_at; (conv => lhs; whnf); (with_reducible assumption); rfl; (conv => whnf)) | (refine ⟨⟨by omega, by omega⟩, ?_⟩; (conv => whnf))))
        exact ⟨rfl, hE21⟩
      | false =>
        have hGW0 : GW = W0 := by
          rcases h8 with e | ⟨e, _⟩
          · rw [e, beq_self_eq_true] at hb; cases hb
          · exact e
        have kT := kN F19 rG rN
        rw [hb] at kT
        have kT2 := kW F19 rG rW
        rw [hGW0, beq_self_eq_true, ← hGW0] at kT2
        refine call_of kT ?_
        rintro v F19 ⟨rfl, rfl⟩
        refine short [15, 17, 23, 169, 172] [.pointer (some ⟨lb3, 0, none⟩), .slice SA 3120 Sc, .slice GA GW.length Gc, .bool false, .bool false] rfl fun ρ => ?_
        ((conv => whnf); repeat (first | (apply load_at; (conv => lhs; whnf); (with_reducible assumption); rfl; (conv => whnf)) | (apply load_at; (conv => lhs; rw [add_plain, add_plain]); (with_reducible assumption); rfl; (conv => whnf)) | (apply loads_at; (conv => lhs; whnf); (with_reducible assumption); rfl; (conv => whnf)) | (refine ⟨⟨by omega, by omega⟩, ?_⟩; (conv => whnf))))
        refine call_of kT2 ?_
        rintro v F19 ⟨rfl, rfl⟩
        refine short [15, 23, 169, 174, 177] [.pointer (some ⟨lb3, 0, none⟩), .slice GA GW.length Gc, .bool false, .bool true, .bool true] rfl fun ρ => ?_
        ((conv => whnf); repeat (first | (apply load_at; (conv => lhs; whnf); (with_reducible assumption); rfl; (conv => whnf)) | (apply load_at; (conv => lhs; rw [add_plain, add_plain]); (with_reducible assumption); rfl; (conv => whnf)) | (apply loads_at; (conv => lhs; whnf); (with_reducible assumption); rfl; (conv => whnf)) | (refine ⟨⟨by omega, by omega⟩, ?_⟩; (conv => whnf))))
        refine call_of kL ?_
        rintro v F20 ⟨S20, rfl, hM20⟩
        obtain ⟨A2, c2, rfl, kE⟩ := kA2 hM20
        refine short [23, 183] [.slice GA GW.length Gc, .tuple #[.slice A2 GW.length c2, .bool true]] rfl fun ρ => ?_
        ((conv => whnf); repeat (first | (apply load_at; (conv => lhs; whnf); (with_reducible assumption); rfl; (conv => whnf)) | (apply load_at; (conv => lhs; rw [add_plain, add_plain]); (with_reducible assumption); rfl; (conv => whnf)) | (apply loads_at; (conv => lhs; whnf); (with_reducible assumption); rfl; (conv => whnf)) | (refine ⟨⟨by omega, by omega⟩, ?_⟩; (conv => whnf))))
        refine call_of kE ?_
        rintro v F20 ⟨rfl, rfl⟩
        ((conv => whnf); repeat (first | (apply load_at; (conv => lhs; whnf); (with_reducible assumption); rfl; (conv => whnf)) | (apply load_at; (conv => lhs; rw [add_plain, add_plain]); (with_reducible assumption); rfl; (conv => whnf)) | (apply loads_at; (conv => lhs; whnf); (with_reducible assumption); rfl; (conv => whnf)) | (refine ⟨⟨by omega, by omega⟩, ?_⟩; (conv => whnf))))
        refine call_of (out F20 (hF19.trans hM20.ext)) ?_
        rintro v F21 ⟨rfl, hE21⟩
        ((conv => whnf); repeat (first | (apply load_at; (conv => lhs; whnf); (with_reducible assumption); rfl; (conv => whnf)) | (apply load_at; (conv => lhs; rw [add_plain, add_plain]); (with_reducible assumption); rfl; (conv => whnf)) | (apply loads_at; (conv => lhs; whnf); (with_reducible assumption); rfl; (conv => whnf)) | (refine ⟨⟨by omega, by omega⟩, ?_⟩; (conv => whnf))))
        exact ⟨rfl, hE21⟩
end Go.Proofs.YtmpiggcooboenaaDoor.AlRedoAtomic

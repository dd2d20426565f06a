/- The law ReplyBack holds of the program: proved over what is known of memory, each function by its contract. -/
import Derived.Test.YtkahpaipciooiacAlLawReplyBack
import Derived.Test.YtkahpaipciooiacRepAwake
namespace Go.Proofs.Ytkahpaipciooiac.AlReplyBack
open Go Go.Al Go.Proofs Go.RowKit Go.Proofs.Ytkahpaipciooiac.Al
set_option maxHeartbeats 8000000
set_option maxRecDepth 100000
set_option linter.unusedVariables false
set_option linter.unusedSimpArgs false
/-- What either Decode hands back. -/
theorem both {b : List UInt8} {v : Value} {F : Heap} (hb : b.length ≤ 10000) (h : DecR b v F) : ∃ (x : RD) (A : Option Addr) (c : Nat) (e : Int), v = .tuple #[.agg (rpC x.k (.slice A x.ns.length c) x.t), .int .i64 e] ∧ RowAt F A (x.ns.map (.int .i64)) ∧ x.ns.length ≤ 2000 ∧ x.ns.length ≤ c ∧ ((okR b ∧ x = decR b ∧ e = 0) ∨ (¬ okR b ∧ x = ⟨0, [], []⟩ ∧ e = 4)) := by
  rcases h with ⟨h1, A, c, h2, h3, h4⟩ | ⟨h1, h2⟩
  · exact ⟨decR b, A, c, 0, h2, h3, (dec_len h1 hb).1, h4, .inl ⟨h1, rfl, rfl⟩⟩
  · exact ⟨⟨0, [], []⟩, none, 0, 4, h2, RowAt.nil _ _, by simp, by simp, .inr ⟨h1, rfl, rfl⟩⟩
theorem law : LawK := by
  intro F x0 w0 cs0 hK0 x1 w1 K kc hkc hK1
  obtain ⟨k, ns, tx, A, c, rfl, hc, hr, hk64, hn64⟩ := rp_open w0 hK0
  obtain ⟨b, rfl⟩ := bytes_of_wf w1.2
  have hb : RowAt F K (bytesOf b) := elems_bytes hK1
  clear hK0 w0 hK1 w1
  rw [List.length_map] at hkc
  simp only [List.length_map]
  have hsx : ∀ x : RD, sameR x x = true := fun x => (sameR_iff x x).2 rfl
  (refine fn_walk tab_ok Try.func5 rfl rfl rfl rfl ?_; (conv => whnf))
  refine new_step (rpO k (.slice A ns.length c) tx) rfl fun p h0_p => ?_
  have hE_p := Ext.new h0_p (rpO k (.slice A ns.length c) tx)
  have hB_p := Heap.put_same F p (rpO k (.slice A ns.length c) tx)
  generalize F.put p _ = F1 at hE_p hB_p ⊢
  ((conv => whnf); repeat (first | (apply load_at; (conv => lhs; whnf); (with_reducible assumption); rfl; (conv => whnf)) | (apply loads_at; (conv => lhs; whnf); (with_reducible assumption); rfl; (conv => whnf)) | (refine ⟨⟨by omega, by omega⟩, ?_⟩; (conv => whnf))))
  refine cond_split (fun h => ?_) (fun h => ?_)
  case refine_2 =>
    ((conv => whnf); repeat (first | (apply load_at; (conv => lhs; whnf); (with_reducible assumption); rfl; (conv => whnf)) | (apply loads_at; (conv => lhs; whnf); (with_reducible assumption); rfl; (conv => whnf)) | (refine ⟨⟨by omega, by omega⟩, ?_⟩; (conv => whnf))))
    refine call_of (awake _) ?_
    rintro v F9 ⟨rfl, hF9⟩
    (conv => whnf)
    exact ⟨rfl, hE_p.trans hF9⟩
  have hl1 : ns.length ≤ 300 := by
    have h : (!decide ((ns.length : Int) > 300)) = true := h
    simp at h
    omega
  clear h
  ((conv => whnf); repeat (first | (apply load_at; (conv => lhs; whnf); (with_reducible assumption); rfl; (conv => whnf)) | (apply loads_at; (conv => lhs; whnf); (with_reducible assumption); rfl; (conv => whnf)) | (refine ⟨⟨by omega, by omega⟩, ?_⟩; (conv => whnf))))
  refine cond_split (fun h => ?_) (fun h => ?_)
  case refine_2 =>
    ((conv => whnf); repeat (first | (apply load_at; (conv => lhs; whnf); (with_reducible assumption); rfl; (conv => whnf)) | (apply loads_at; (conv => lhs; whnf); (with_reducible assumption); rfl; (conv => whnf)) | (refine ⟨⟨by omega, by omega⟩, ?_⟩; (conv => whnf))))
    refine call_of (awake _) ?_
    rintro v F9 ⟨rfl, hF9⟩
    (conv => whnf)
    exact ⟨rfl, hE_p.trans hF9⟩
  have hl2 : tx.length ≤ 1000 := by
    have h : (!decide ((tx.length : Int) > 1000)) = true := h
    simp at h
    omega
  clear h
  ((conv => whnf); repeat (first | (apply load_at; (conv => lhs; whnf); (with_reducible assumption); rfl; (conv => whnf)) | (apply loads_at; (conv => lhs; whnf); (with_reducible assumption); rfl; (conv => whnf)) | (refine ⟨⟨by omega, by omega⟩, ?_⟩; (conv => whnf))))
  refine cond_split (fun h => ?_) (fun h => ?_)
  · ((conv => whnf); repeat (first | (apply load_at; (conv => lhs; whnf); (with_reducible assumption); rfl; (conv => whnf)) | (apply loads_at; (conv => lhs; whnf); (with_reducible assumption); rfl; (conv => whnf)) | (refine ⟨⟨by omega, by omega⟩, ?_⟩; (conv => whnf))))
    refine call_of (awake _) ?_
    rintro v F9 ⟨rfl, hF9⟩
    (conv => whnf)
    exact ⟨rfl, hE_p.trans hF9⟩
  have hbl : b.length ≤ 2000 := by
    have h : decide ((b.length : Int) > 2000) = false := h
    have := of_decide_eq_false h
    omega
  clear h
  ((conv => whnf); repeat (first | (apply load_at; (conv => lhs; whnf); (with_reducible assumption); rfl; (conv => whnf)) | (apply loads_at; (conv => lhs; whnf); (with_reducible assumption); rfl; (conv => whnf)) | (refine ⟨⟨by omega, by omega⟩, ?_⟩; (conv => whnf))))
  refine cond_split (fun h => ?_) (fun h => ?_)
  · have h : decide (k ≥ 0) = true := h
    have k0 := of_decide_eq_true h
    ((conv => whnf); repeat (first | (apply load_at; (conv => lhs; whnf); (with_reducible assumption); rfl; (conv => whnf)) | (apply loads_at; (conv => lhs; whnf); (with_reducible assumption); rfl; (conv => whnf)) | (refine ⟨⟨by omega, by omega⟩, ?_⟩; (conv => whnf))))
    refine cond_split (fun h => ?_) (fun h => ?_)
    · have h : decide (k ≤ 255) = true := h
      have k1 := of_decide_eq_true h
      refine short [1, 2] [.slice K b.length kc, .pointer (some ⟨p, 0, none⟩)] rfl fun ρ => ?_
      obtain ⟨g1, g2⟩ := dec_enc (x := ⟨k, ns, tx⟩) (by exact k0) (by exact k1) (by show ns.length ≤ 2000; omega) (by show tx.length ≤ 20000; omega) hn64
      have hec := Go.Proofs.Ytkahpaipciooiac.Al.encode k ns tx A c F1 (hr.mono hE_p) (by omega) hc (by omega)
      have hel : (encR ⟨k, ns, tx⟩).length ≤ 10000 := by
        unfold encR
        dsimp only
        have := flat8_len ns
        simp only [List.length_append, beM_len, List.length_cons, List.length_nil, this]
        omega
      have hdc := fun A c G hg hc => Go.Proofs.Ytkahpaipciooiac.Al.decode (encR ⟨k, ns, tx⟩) A c G hg hel hc
      have hbo := fun v G h => both (b := encR ⟨k, ns, tx⟩) (v := v) (F := G) hel h
      rw [g2] at hbo
      generalize okR (encR ⟨k, ns, tx⟩) = ok at g1 hbo
      generalize DecR (encR ⟨k, ns, tx⟩) = DR at hdc hbo
      generalize encR ⟨k, ns, tx⟩ = en at hec hdc hel
      ((conv => whnf); repeat (first | (apply load_at; (conv => lhs; whnf); (with_reducible assumption); rfl; (conv => whnf)) | (apply loads_at; (conv => lhs; whnf); (with_reducible assumption); rfl; (conv => whnf)) | (refine ⟨⟨by omega, by omega⟩, ?_⟩; (conv => whnf))))
      refine call_of hec ?_
      rintro v F2 hM2
      obtain ⟨A2, c2, rfl, hc2, hR2⟩ := hM2.own.row
      have hP2 := hM2.ext _ _ hB_p
      have hE2 := hE_p.trans hM2.ext
      (conv => whnf)
      refine call_of (hdc A2 c2 F2 hR2 hc2) ?_
      rintro v F3 ⟨hv, hE3⟩
      have hP3 := hE3 _ _ hP2
      replace hE3 := hE2.trans hE3
      obtain ⟨x, A3, c3, e, rfl, hr3, hl3, hq3, hc3⟩ := hbo _ _ hv
      rcases hc3 with ⟨_, rfl, rfl⟩ | ⟨g3, _⟩
      case inr => exact absurd g1 g3
      dsimp only at hr3 hl3 ⊢
      (conv => whnf)
      refine new_step (zeroR) rfl fun u h0_u => ?_
      have hU_u := Heap.put_same F3 u (zeroR)
      have hX_u := fun o => (ext_put_put h0_u (o := zeroR) (o' := o))
      generalize F3.put u (zeroR) = F4 at hU_u hX_u ⊢
      (conv => whnf)
      refine store_step u 0 _ (rpC k (.slice A3 ns.length c3) tx) rfl hU_u rfl rfl (.inl (Nat.le_refl 0)) (osR _ _ _ _ _) ?_
      have hB_u := Heap.put_same F4 u (rpO k (.slice A3 ns.length c3) tx)
      have hE_u := hX_u (rpO k (.slice A3 ns.length c3) tx)
      clear hU_u hX_u
      generalize F4.put u _ = F4 at hB_u hE_u ⊢
      have hP4 := hE_u _ _ hP3
      replace hE3 := hE3.trans hE_u
      have hsm := same k k ns ns tx tx A A3 c c3 F4 (hr.mono hE3) (hr3.mono hE_u) (by omega) (by omega)
      rw [hsx] at hsm
      ((conv => whnf); repeat (first | (apply load_at; (conv => lhs; whnf); (with_reducible assumption); rfl; (conv => whnf)) | (apply loads_at; (conv => lhs; whnf); (with_reducible assumption); rfl; (conv => whnf)) | (refine ⟨⟨by omega, by omega⟩, ?_⟩; (conv => whnf))))
      refine call_of hsm ?_
      rintro v F5 ⟨rfl, hE5⟩
      replace hE5 := hE3.trans hE5
      refine short [1, 40, 41, 44] [.slice K b.length kc, .bool false, .bool false, .bool true] rfl fun ρ => ?_
      have hdc := Go.Proofs.Ytkahpaipciooiac.Al.decode b K kc F5 (hb.mono hE5) (by omega) hkc
      (conv => whnf)
      refine call_of hdc ?_
      rintro v G1 ⟨hv, hE1⟩
      replace hE1 := (hE5).trans hE1
      obtain ⟨x, A2, c2, e, rfl, hr2, hl2, hq2, hc2⟩ := both (by omega) hv
      obtain ⟨k2, ns2, tx2⟩ := x
      dsimp only at hr2 hl2 hc2 ⊢
      rcases hc2 with ⟨g1, g2, rfl⟩ | ⟨g1, g2, rfl⟩
      · have hen := enc_dec g1
        have htl := (dec_len g1 (by omega)).2
        rw [← g2] at hen htl
        dsimp only at htl
        (conv => whnf)
        refine new_step (zeroR) rfl fun q h0_q => ?_
        have hU_q := Heap.put_same G1 q (zeroR)
        have hX_q := fun o => (ext_put_put h0_q (o := zeroR) (o' := o))
        generalize G1.put q (zeroR) = G2 at hU_q hX_q ⊢
        (conv => whnf)
        refine store_step q 0 _ (rpC k2 (.slice A2 ns2.length c2) tx2) rfl hU_q rfl rfl (.inl (Nat.le_refl 0)) (osR _ _ _ _ _) ?_
        have hB_q := Heap.put_same G2 q (rpO k2 (.slice A2 ns2.length c2) tx2)
        have hE_q := hX_q (rpO k2 (.slice A2 ns2.length c2) tx2)
        clear hU_q hX_q
        generalize G2.put q _ = G2 at hB_q hE_q ⊢
        replace hE1 := hE1.trans hE_q
        refine short [1, 7, 51] [.slice K b.length kc, .pointer (some ⟨q, 0, none⟩), .int .i64 0] rfl fun ρ => ?_
        have hec := Go.Proofs.Ytkahpaipciooiac.Al.encode k2 ns2 tx2 A2 c2 G2 (hr2.mono hE_q) hl2 (by exact hq2) htl
        rw [hen] at hec
        ((conv => whnf); repeat (first | (apply load_at; (conv => lhs; whnf); (with_reducible assumption); rfl; (conv => whnf)) | (apply loads_at; (conv => lhs; whnf); (with_reducible assumption); rfl; (conv => whnf)) | (refine ⟨⟨by omega, by omega⟩, ?_⟩; (conv => whnf))))
        refine call_of hec ?_
        rintro v G3 hM3
        obtain ⟨A3, c3, rfl, hc3, hR3⟩ := hM3.own.row
        have heq := bytesEqual b b A3 K c3 kc G3 hR3 (hb.mono (hE1.trans hM3.ext))
        rw [beq_self_eq_true] at heq
        ((conv => whnf); repeat (first | (apply load_at; (conv => lhs; whnf); (with_reducible assumption); rfl; (conv => whnf)) | (apply loads_at; (conv => lhs; whnf); (with_reducible assumption); rfl; (conv => whnf)) | (refine ⟨⟨by omega, by omega⟩, ?_⟩; (conv => whnf))))
        refine call_of heq ?_
        rintro v G4 ⟨rfl, rfl⟩
        ((conv => whnf); repeat (first | (apply load_at; (conv => lhs; whnf); (with_reducible assumption); rfl; (conv => whnf)) | (apply loads_at; (conv => lhs; whnf); (with_reducible assumption); rfl; (conv => whnf)) | (refine ⟨⟨by omega, by omega⟩, ?_⟩; (conv => whnf))))
        refine call_of (awake _) ?_
        rintro v G5 ⟨rfl, hG5⟩
        (conv => whnf)
        exact ⟨rfl, hE1.trans (hM3.ext.trans hG5)⟩
      · obtain ⟨rfl, rfl, rfl⟩ : k2 = 0 ∧ ns2 = [] ∧ tx2 = [] := by injection g2 with a b c; exact ⟨a, b, c⟩
        (conv => whnf)
        refine new_step (zeroR) rfl fun q h0_q => ?_
        have hU_q := Heap.put_same G1 q (zeroR)
        have hX_q := fun o => (ext_put_put h0_q (o := zeroR) (o' := o))
        generalize G1.put q (zeroR) = G2 at hU_q hX_q ⊢
        (conv => whnf)
        refine store_step q 0 _ (rpC 0 (.slice A2 0 c2) []) rfl hU_q rfl rfl (.inl (Nat.le_refl 0)) (osR _ _ _ _ _) ?_
        have hB_q := Heap.put_same G2 q (rpO 0 (.slice A2 0 c2) [])
        have hE_q := hX_q (rpO 0 (.slice A2 0 c2) [])
        clear hU_q hX_q
        generalize G2.put q _ = G2 at hB_q hE_q ⊢
        replace hE1 := hE1.trans hE_q
        refine short [1, 7, 51] [.slice K b.length kc, .pointer (some ⟨q, 0, none⟩), .int .i64 4] rfl fun ρ => ?_
        have hsm := same 0 0 [] [] [] [] A2 none c2 0 G2 (RowAt.nil _ _) (RowAt.nil _ _) (by simp) (by simp)
        rw [hsx] at hsm
        ((conv => whnf); repeat (first | (apply load_at; (conv => lhs; whnf); (with_reducible assumption); rfl; (conv => whnf)) | (apply loads_at; (conv => lhs; whnf); (with_reducible assumption); rfl; (conv => whnf)) | (refine ⟨⟨by omega, by omega⟩, ?_⟩; (conv => whnf))))
        refine call_of hsm ?_
        rintro v G3 ⟨rfl, hE3⟩
        ((conv => whnf); repeat (first | (apply load_at; (conv => lhs; whnf); (with_reducible assumption); rfl; (conv => whnf)) | (apply loads_at; (conv => lhs; whnf); (with_reducible assumption); rfl; (conv => whnf)) | (refine ⟨⟨by omega, by omega⟩, ?_⟩; (conv => whnf))))
        refine call_of (awake _) ?_
        rintro v G4 ⟨rfl, hG4⟩
        (conv => whnf)
        exact ⟨rfl, hE1.trans (hE3.trans hG4)⟩
    · refine short [1, 28, 31] [.slice K b.length kc, .bool true, .bool (decide (k ≤ 255))] rfl fun ρ => ?_
      have h : decide (k ≤ 255) = false := h
      rw [h]
      have hdc := Go.Proofs.Ytkahpaipciooiac.Al.decode b K kc F1 (hb.mono hE_p) (by omega) hkc
      (conv => whnf)
      refine call_of hdc ?_
      rintro v G1 ⟨hv, hE1⟩
      replace hE1 := (hE_p).trans hE1
      obtain ⟨x, A2, c2, e, rfl, hr2, hl2, hq2, hc2⟩ := both (by omega) hv
      obtain ⟨k2, ns2, tx2⟩ := x
      dsimp only at hr2 hl2 hc2 ⊢
      rcases hc2 with ⟨g1, g2, rfl⟩ | ⟨g1, g2, rfl⟩
      · have hen := enc_dec g1
        have htl := (dec_len g1 (by omega)).2
        rw [← g2] at hen htl
        dsimp only at htl
        (conv => whnf)
        refine new_step (zeroR) rfl fun q h0_q => ?_
        have hU_q := Heap.put_same G1 q (zeroR)
        have hX_q := fun o => (ext_put_put h0_q (o := zeroR) (o' := o))
        generalize G1.put q (zeroR) = G2 at hU_q hX_q ⊢
        (conv => whnf)
        refine store_step q 0 _ (rpC k2 (.slice A2 ns2.length c2) tx2) rfl hU_q rfl rfl (.inl (Nat.le_refl 0)) (osR _ _ _ _ _) ?_
        have hB_q := Heap.put_same G2 q (rpO k2 (.slice A2 ns2.length c2) tx2)
        have hE_q := hX_q (rpO k2 (.slice A2 ns2.length c2) tx2)
        clear hU_q hX_q
        generalize G2.put q _ = G2 at hB_q hE_q ⊢
        replace hE1 := hE1.trans hE_q
        refine short [1, 7, 51] [.slice K b.length kc, .pointer (some ⟨q, 0, none⟩), .int .i64 0] rfl fun ρ => ?_
        have hec := Go.Proofs.Ytkahpaipciooiac.Al.encode k2 ns2 tx2 A2 c2 G2 (hr2.mono hE_q) hl2 (by exact hq2) htl
        rw [hen] at hec
        ((conv => whnf); repeat (first | (apply load_at; (conv => lhs; whnf); (with_reducible assumption); rfl; (conv => whnf)) | (apply loads_at; (conv => lhs; whnf); (with_reducible assumption); rfl; (conv => whnf)) | (refine ⟨⟨by omega, by omega⟩, ?_⟩; (conv => whnf))))
        refine call_of hec ?_
        rintro v G3 hM3
        obtain ⟨A3, c3, rfl, hc3, hR3⟩ := hM3.own.row
        have heq := bytesEqual b b A3 K c3 kc G3 hR3 (hb.mono (hE1.trans hM3.ext))
        rw [beq_self_eq_true] at heq
        ((conv => whnf); repeat (first | (apply load_at; (conv => lhs; whnf); (with_reducible assumption); rfl; (conv => whnf)) | (apply loads_at; (conv => lhs; whnf); (with_reducible assumption); rfl; (conv => whnf)) | (refine ⟨⟨by omega, by omega⟩, ?_⟩; (conv => whnf))))
        refine call_of heq ?_
        rintro v G4 ⟨rfl, rfl⟩
        ((conv => whnf); repeat (first | (apply load_at; (conv => lhs; whnf); (with_reducible assumption); rfl; (conv => whnf)) | (apply loads_at; (conv => lhs; whnf); (with_reducible assumption); rfl; (conv => whnf)) | (refine ⟨⟨by omega, by omega⟩, ?_⟩; (conv => whnf))))
        refine call_of (awake _) ?_
        rintro v G5 ⟨rfl, hG5⟩
        (conv => whnf)
        exact ⟨rfl, hE1.trans (hM3.ext.trans hG5)⟩
      · obtain ⟨rfl, rfl, rfl⟩ : k2 = 0 ∧ ns2 = [] ∧ tx2 = [] := by injection g2 with a b c; exact ⟨a, b, c⟩
        (conv => whnf)
        refine new_step (zeroR) rfl fun q h0_q => ?_
        have hU_q := Heap.put_same G1 q (zeroR)
        have hX_q := fun o => (ext_put_put h0_q (o := zeroR) (o' := o))
        generalize G1.put q (zeroR) = G2 at hU_q hX_q ⊢
        (conv => whnf)
        refine store_step q 0 _ (rpC 0 (.slice A2 0 c2) []) rfl hU_q rfl rfl (.inl (Nat.le_refl 0)) (osR _ _ _ _ _) ?_
        have hB_q := Heap.put_same G2 q (rpO 0 (.slice A2 0 c2) [])
        have hE_q := hX_q (rpO 0 (.slice A2 0 c2) [])
        clear hU_q hX_q
        generalize G2.put q _ = G2 at hB_q hE_q ⊢
        replace hE1 := hE1.trans hE_q
        refine short [1, 7, 51] [.slice K b.length kc, .pointer (some ⟨q, 0, none⟩), .int .i64 4] rfl fun ρ => ?_
        have hsm := same 0 0 [] [] [] [] A2 none c2 0 G2 (RowAt.nil _ _) (RowAt.nil _ _) (by simp) (by simp)
        rw [hsx] at hsm
        ((conv => whnf); repeat (first | (apply load_at; (conv => lhs; whnf); (with_reducible assumption); rfl; (conv => whnf)) | (apply loads_at; (conv => lhs; whnf); (with_reducible assumption); rfl; (conv => whnf)) | (refine ⟨⟨by omega, by omega⟩, ?_⟩; (conv => whnf))))
        refine call_of hsm ?_
        rintro v G3 ⟨rfl, hE3⟩
        ((conv => whnf); repeat (first | (apply load_at; (conv => lhs; whnf); (with_reducible assumption); rfl; (conv => whnf)) | (apply loads_at; (conv => lhs; whnf); (with_reducible assumption); rfl; (conv => whnf)) | (refine ⟨⟨by omega, by omega⟩, ?_⟩; (conv => whnf))))
        refine call_of (awake _) ?_
        rintro v G4 ⟨rfl, hG4⟩
        (conv => whnf)
        exact ⟨rfl, hE1.trans (hE3.trans hG4)⟩
  · have h : decide (k ≥ 0) = false := h
    refine short [1, 28] [.slice K b.length kc, .bool false] rfl fun ρ => ?_
    have hdc := Go.Proofs.Ytkahpaipciooiac.Al.decode b K kc F1 (hb.mono hE_p) (by omega) hkc
    (conv => whnf)
    refine call_of hdc ?_
    rintro v G1 ⟨hv, hE1⟩
    replace hE1 := (hE_p).trans hE1
    obtain ⟨x, A2, c2, e, rfl, hr2, hl2, hq2, hc2⟩ := both (by omega) hv
    obtain ⟨k2, ns2, tx2⟩ := x
    dsimp only at hr2 hl2 hc2 ⊢
    rcases hc2 with ⟨g1, g2, rfl⟩ | ⟨g1, g2, rfl⟩
    · have hen := enc_dec g1
      have htl := (dec_len g1 (by omega)).2
      rw [← g2] at hen htl
      dsimp only at htl
      (conv => whnf)
      refine new_step (zeroR) rfl fun q h0_q => ?_
      have hU_q := Heap.put_same G1 q (zeroR)
      have hX_q := fun o => (ext_put_put h0_q (o := zeroR) (o' := o))
      generalize G1.put q (zeroR) = G2 at hU_q hX_q ⊢
      (conv => whnf)
      refine store_step q 0 _ (rpC k2 (.slice A2 ns2.length c2) tx2) rfl hU_q rfl rfl (.inl (Nat.le_refl 0)) (osR _ _ _ _ _) ?_
      have hB_q := Heap.put_same G2 q (rpO k2 (.slice A2 ns2.length c2) tx2)
      have hE_q := hX_q (rpO k2 (.slice A2 ns2.length c2) tx2)
      clear hU_q hX_q
      generalize G2.put q _ = G2 at hB_q hE_q ⊢
      replace hE1 := hE1.trans hE_q
      refine short [1, 7, 51] [.slice K b.length kc, .pointer (some ⟨q, 0, none⟩), .int .i64 0] rfl fun ρ => ?_
      have hec := Go.Proofs.Ytkahpaipciooiac.Al.encode k2 ns2 tx2 A2 c2 G2 (hr2.mono hE_q) hl2 (by exact hq2) htl
      rw [hen] at hec
      ((conv => whnf); repeat (first | (apply load_at; (conv => lhs; whnf); (with_reducible assumption); rfl; (conv => whnf)) | (apply loads_at; (conv => lhs; whnf); (with_reducible assumption); rfl; (conv => whnf)) | (refine ⟨⟨by omega, by omega⟩, ?_⟩; (conv => whnf))))
      refine call_of hec ?_
      rintro v G3 hM3
      obtain ⟨A3, c3, rfl, hc3, hR3⟩ := hM3.own.row
      have heq := bytesEqual b b A3 K c3 kc G3 hR3 (hb.mono (hE1.trans hM3.ext))
      rw [beq_self_eq_true] at heq
      ((conv => whnf); repeat (first | (apply load_at; (conv => lhs; whnf); (with_reducible assumption); rfl; (conv => whnf)) | (apply loads_at; (conv => lhs; whnf); (with_reducible assumption); rfl; (conv => whnf)) | (refine ⟨⟨by omega, by omega⟩, ?_⟩; (conv => whnf))))
      refine call_of heq ?_
      rintro v G4 ⟨rfl, rfl⟩
      ((conv => whnf); repeat (first | (apply load_at; (conv => lhs; whnf); (with_reducible assumption); rfl; (conv => whnf)) | (apply loads_at; (conv => lhs; whnf); (with_reducible assumption); rfl; (conv => whnf)) | (refine ⟨⟨by omega, by omega⟩, ?_⟩; (conv => whnf))))
      refine call_of (awake _) ?_
      rintro v G5 ⟨rfl, hG5⟩
      (conv => whnf)
      exact ⟨rfl, hE1.trans (hM3.ext.trans hG5)⟩
    · obtain ⟨rfl, rfl, rfl⟩ : k2 = 0 ∧ ns2 = [] ∧ tx2 = [] := by injection g2 with a b c; exact ⟨a, b, c⟩
      (conv => whnf)
      refine new_step (zeroR) rfl fun q h0_q => ?_
      have hU_q := Heap.put_same G1 q (zeroR)
      have hX_q := fun o => (ext_put_put h0_q (o := zeroR) (o' := o))
      generalize G1.put q (zeroR) = G2 at hU_q hX_q ⊢
      (conv => whnf)
      refine store_step q 0 _ (rpC 0 (.slice A2 0 c2) []) rfl hU_q rfl rfl (.inl (Nat.le_refl 0)) (osR _ _ _ _ _) ?_
      have hB_q := Heap.put_same G2 q (rpO 0 (.slice A2 0 c2) [])
      have hE_q := hX_q (rpO 0 (.slice A2 0 c2) [])
      clear hU_q hX_q
      generalize G2.put q _ = G2 at hB_q hE_q ⊢
      replace hE1 := hE1.trans hE_q
      refine short [1, 7, 51] [.slice K b.length kc, .pointer (some ⟨q, 0, none⟩), .int .i64 4] rfl fun ρ => ?_
      have hsm := same 0 0 [] [] [] [] A2 none c2 0 G2 (RowAt.nil _ _) (RowAt.nil _ _) (by simp) (by simp)
      rw [hsx] at hsm
      ((conv => whnf); repeat (first | (apply load_at; (conv => lhs; whnf); (with_reducible assumption); rfl; (conv => whnf)) | (apply loads_at; (conv => lhs; whnf); (with_reducible assumption); rfl; (conv => whnf)) | (refine ⟨⟨by omega, by omega⟩, ?_⟩; (conv => whnf))))
      refine call_of hsm ?_
      rintro v G3 ⟨rfl, hE3⟩
      ((conv => whnf); repeat (first | (apply load_at; (conv => lhs; whnf); (with_reducible assumption); rfl; (conv => whnf)) | (apply loads_at; (conv => lhs; whnf); (with_reducible assumption); rfl; (conv => whnf)) | (refine ⟨⟨by omega, by omega⟩, ?_⟩; (conv => whnf))))
      refine call_of (awake _) ?_
      rintro v G4 ⟨rfl, hG4⟩
      (conv => whnf)
      exact ⟨rfl, hE1.trans (hE3.trans hG4)⟩
end Go.Proofs.Ytkahpaipciooiac.AlReplyBack

/- The law ReplyDecodes holds of the program: proved over what is known of memory, each function by its contract. -/
import Derived.Test.YtkahpaipciooiacAlLawReplyDecodes
import Derived.Test.YtkahpaipciooiacRepAwake
namespace Go.Proofs.Ytkahpaipciooiac.AlReplyDecodes
open Go Go.Al Go.Proofs Go.RowKit Go.Proofs.Ytkahpaipciooiac.Al
set_option maxHeartbeats 8000000
set_option maxRecDepth 100000
set_option linter.unusedVariables false
set_option linter.unusedSimpArgs false
/-- What either Decode hands back. -/
theorem both {b : List UInt8} {v : Value} {F : Heap} (hb : b.length ≤ 10000) (h : DecR b v F) : ∃ (x : RD) (A : Option Addr) (c : Nat) (e : Int), v = .tuple #[.agg (rpC x.k (.slice A x.ns.length c) x.t), .int .i64 e] ∧ RowAt F A (x.ns.map (.int .i64)) ∧ x.ns.length ≤ 2000 ∧ x.ns.length ≤ c ∧ ((okR b ∧ x = decR b ∧ e = 0) ∨ (¬ okR b ∧ x = ⟨0, [], []⟩ ∧ e = 4)) := by
  rcases h with ⟨h1, A, c, h2, h3, h4⟩ | ⟨h1, h2⟩
  · exact ⟨decR b, A, c, 0, h2, h3, (dec_len h1 hb).1, h4, .inl ⟨h1, rfl, rfl⟩⟩
  · exact ⟨⟨0, [], []⟩, none, 0, 4, h2, RowAt.nil _ _, by simp, by simp, .inr ⟨h1, rfl, rfl⟩⟩
theorem law : LawK := by
  intro F xx w A c hc hK
  obtain ⟨b, rfl⟩ := bytes_of_wf w.2
  have hr : RowAt F A (bytesOf b) := elems_bytes hK
  clear hK w
  rw [List.length_map] at hc
  simp only [List.length_map]
  have h1 := Go.Proofs.Ytkahpaipciooiac.Al.decode b A c
  have h2 := Go.Proofs.Ytkahpaipciooiac.Al.rdecode b A c
  have hbo := fun v G h => both (b := b) (v := v) (F := G) h
  have hsx : ∀ x : RD, sameR x x = true := fun x => (sameR_iff x x).2 rfl
  generalize okR b = ok at hbo
  generalize decR b = dr at hbo
  generalize DecR b = DR at h1 h2 hbo
  (refine fn_walk tab_ok Try.func3 rfl rfl rfl rfl ?_; (conv => whnf))
  refine cond_split (fun h => ?_) (fun h => ?_)
  · (conv => whnf)
    refine call_of (awake _) ?_
    rintro v F9 ⟨rfl, hF9⟩
    (conv => whnf)
    exact ⟨rfl, hF9⟩
  have hb : b.length ≤ 2000 := by
    have h : decide ((b.length : Int) > 2000) = false := h
    have := of_decide_eq_false h
    omega
  clear h
  (conv => whnf)
  refine call_of (h1 F hr (by omega) hc) ?_
  rintro v F1 ⟨hv, hE1⟩
  obtain ⟨x, A1, c1, e, rfl, hr1, hl1, hq1, hc1⟩ := hbo _ _ (by omega) hv
  obtain ⟨k, ns, tx⟩ := x
  dsimp only at hr1 hl1 hc1 ⊢
  (conv => whnf)
  refine new_step (zeroR) rfl fun p h0_p => ?_
  have hU_p := Heap.put_same F1 p (zeroR)
  have hX_p := fun o => (ext_put_put h0_p (o := zeroR) (o' := o))
  generalize F1.put p (zeroR) = F2 at hU_p hX_p ⊢
  (conv => whnf)
  refine store_step p 0 _ (rpC k (.slice A1 ns.length c1) tx) rfl hU_p rfl rfl (.inl (Nat.le_refl 0)) (osR _ _ _ _ _) ?_
  have hB_p := Heap.put_same F2 p (rpO k (.slice A1 ns.length c1) tx)
  have hE_p := hX_p (rpO k (.slice A1 ns.length c1) tx)
  clear hU_p hX_p
  generalize F2.put p _ = F2 at hB_p hE_p ⊢
  replace hE1 := hE1.trans hE_p
  (conv => whnf)
  refine call_of (h2 F2 (hr.mono hE1) (by omega) hc) ?_
  rintro v F3 ⟨hv, hE3⟩
  obtain ⟨x', A2, c2, e', rfl, hr2, hl2, hq2, hc2⟩ := hbo _ _ (by omega) hv
  have hBB : x' = ⟨k, ns, tx⟩ ∧ e' = e := by
    rcases hc1 with ⟨g1, g2, g3⟩ | ⟨g1, g2, g3⟩ <;> rcases hc2 with ⟨k1, k2, k3⟩ | ⟨k1, k2, k3⟩
    · exact ⟨by rw [k2, g2], by rw [k3, g3]⟩
    · exact absurd g1 k1
    · exact absurd k1 g1
    · exact ⟨by rw [k2, g2], by rw [k3, g3]⟩
  obtain ⟨rfl, rfl⟩ := hBB
  dsimp only at hr2 hl2 ⊢
  have hP3 := hE3 _ _ hB_p
  (conv => whnf)
  refine new_step (zeroR) rfl fun q h0_q => ?_
  have hU_q := Heap.put_same F3 q (zeroR)
  have hX_q := fun o => (ext_put_put h0_q (o := zeroR) (o' := o))
  generalize F3.put q (zeroR) = F4 at hU_q hX_q ⊢
  (conv => whnf)
  refine store_step q 0 _ (rpC k (.slice A2 ns.length c2) tx) rfl hU_q rfl rfl (.inl (Nat.le_refl 0)) (osR _ _ _ _ _) ?_
  have hB_q := Heap.put_same F4 q (rpO k (.slice A2 ns.length c2) tx)
  have hE_q := hX_q (rpO k (.slice A2 ns.length c2) tx)
  clear hU_q hX_q
  generalize F4.put q _ = F4 at hB_q hE_q ⊢
  have hP4 := hE_q _ _ hP3
  have hX := hE_p.trans (hE3.trans hE_q)
  have hsm := rsame k k ns ns tx tx A1 A2 c1 c2 F4 (hr1.mono hX) (hr2.mono hE_q) (by omega) (by omega)
  rw [hsx] at hsm
  ((conv => whnf); repeat (first | (apply load_at; (conv => lhs; whnf); (with_reducible assumption); rfl; (conv => whnf)) | (apply loads_at; (conv => lhs; whnf); (with_reducible assumption); rfl; (conv => whnf)) | (refine ⟨⟨by omega, by omega⟩, ?_⟩; (conv => whnf))))
  (refine cond_split (fun _ => ?_) (fun h_ => absurd h_ (by simp)); (conv => whnf))
  ((conv => whnf); repeat (first | (apply load_at; (conv => lhs; whnf); (with_reducible assumption); rfl; (conv => whnf)) | (apply loads_at; (conv => lhs; whnf); (with_reducible assumption); rfl; (conv => whnf)) | (refine ⟨⟨by omega, by omega⟩, ?_⟩; (conv => whnf))))
  refine call_of hsm ?_
  rintro v F5 ⟨rfl, hE5⟩
  (conv => whnf)
  refine call_of (awake _) ?_
  rintro v F9 ⟨rfl, hF9⟩
  (conv => whnf)
  exact ⟨rfl, hE1.trans (hE3.trans (hE_q.trans (hE5.trans hF9)))⟩
end Go.Proofs.Ytkahpaipciooiac.AlReplyDecodes

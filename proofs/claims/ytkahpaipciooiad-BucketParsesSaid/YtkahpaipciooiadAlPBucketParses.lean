/- The law BucketParses holds of the program: proved over what is known of memory, each function by its contract. -/
import Derived.Test.YtkahpaipciooiadAlLawBucketParses
import Derived.Test.YtkahpaipciooiadBktAwake
namespace Go.Proofs.Ytkahpaipciooiad.AlBucketParses
open Go Go.Al Go.Proofs Go.RowKit Go.Proofs.Ytkahpaipciooiad.Al
set_option maxHeartbeats 8000000
set_option maxRecDepth 100000
set_option linter.unusedVariables false
set_option linter.unusedSimpArgs false
/-- What either parse hands back, its row's own length told. -/
theorem both {b : List UInt8} {v : Value} {F : Heap} (h : ParR b v F) : ∃ (B : BD) (rs : List PR) (A : Option Addr) (c : Nat) (e : Int), v = .tuple #[.agg (bkC B.d B.nx (.slice A rs.length c)), .int .i64 e] ∧ rs.map pd = B.ps ∧ RowAt F A (prsV rs) ∧ (∀ r ∈ rs, PrOk F r) ∧ Sm rs ∧ ((parseB b = some B ∧ e = 0) ∨ (parseB b = none ∧ B = ⟨0, 0, []⟩ ∧ e = 4)) := by
  rcases h with ⟨B, rs, A, c, h1, h2, h3, h4, h5, h6⟩ | ⟨h1, h2⟩
  · exact ⟨B, rs, A, c, 0, h3, h2, h4, h5, h6, .inl ⟨h1, rfl⟩⟩
  · exact ⟨⟨0, 0, []⟩, [], none, 0, 4, h2, rfl, RowAt.nil _ _, (fun r h => by cases h), ⟨by simp, fun r h => by cases h⟩, .inr ⟨h1, rfl, rfl⟩⟩
theorem law : LawK := by
  intro F xx w A c hc hK
  obtain ⟨b, rfl⟩ := bytes_of_wf w.2
  have hr : RowAt F A (bytesOf b) := elems_bytes hK
  clear hK w
  rw [List.length_map] at hc
  simp only [List.length_map]
  have h1 := Go.Proofs.Ytkahpaipciooiad.Al.parse b A c
  have h2 := Go.Proofs.Ytkahpaipciooiad.Al.rparse b A c
  (refine fn_walk tab_ok Try.func3 rfl rfl rfl rfl ?_; (conv => whnf))
  refine cond_split (fun h => ?_) (fun h => ?_)
  · (conv => whnf)
    refine call_of (awake _) ?_
    rintro v F9 ⟨rfl, hF9⟩
    (conv => whnf)
    exact ⟨rfl, hF9⟩
  have hb : b.length ≤ 1000 := by
    have h : decide ((b.length : Int) > 1000) = false := h
    have := of_decide_eq_false h
    omega
  clear h
  (conv => whnf)
  refine call_of (h1 F hr hb hc) ?_
  rintro v F1 ⟨hv, hE1⟩
  obtain ⟨B, rs, A1, c1, e, rfl, hm1, hr1, ho1, hs1, hc1⟩ := both hv
  (conv => whnf)
  refine new_step (zeroB) rfl fun p h0_p => ?_
  have hU_p := Heap.put_same F1 p (zeroB)
  have hX_p := fun o => (ext_put_put h0_p (o := zeroB) (o' := o))
  generalize F1.put p (zeroB) = F2 at hU_p hX_p ⊢
  (conv => whnf)
  refine store_step p 0 _ (bkC B.d B.nx (.slice A1 rs.length c1)) rfl hU_p rfl rfl (.inl (Nat.le_refl 0)) (osB _ _ _ _ _) ?_
  have hB_p := Heap.put_same F2 p (bkO B.d B.nx (.slice A1 rs.length c1))
  have hE_p := hX_p (bkO B.d B.nx (.slice A1 rs.length c1))
  clear hU_p hX_p
  generalize F2.put p _ = F2 at hB_p hE_p ⊢
  replace hE1 := hE1.trans hE_p
  (conv => whnf)
  refine call_of (h2 F2 (hr.mono hE1) hb hc) ?_
  rintro v F3 ⟨hv, hE3⟩
  obtain ⟨B', ss, A2, c2, e', rfl, hm2, hr2, ho2, hs2, hc2⟩ := both hv
  have hP3 := hE3 _ _ hB_p
  have hBB : B = B' ∧ e = e' := by
    rcases hc1 with ⟨g1, g2⟩ | ⟨g1, g2, g3⟩ <;> rcases hc2 with ⟨k1, k2⟩ | ⟨k1, k2, k3⟩ <;> simp_all
  obtain ⟨rfl, rfl⟩ := hBB
  (conv => whnf)
  refine new_step (zeroB) rfl fun q h0_q => ?_
  have hU_q := Heap.put_same F3 q (zeroB)
  have hX_q := fun o => (ext_put_put h0_q (o := zeroB) (o' := o))
  generalize F3.put q (zeroB) = F4 at hU_q hX_q ⊢
  (conv => whnf)
  refine store_step q 0 _ (bkC B.d B.nx (.slice A2 ss.length c2)) rfl hU_q rfl rfl (.inl (Nat.le_refl 0)) (osB _ _ _ _ _) ?_
  have hB_q := Heap.put_same F4 q (bkO B.d B.nx (.slice A2 ss.length c2))
  have hE_q := hX_q (bkO B.d B.nx (.slice A2 ss.length c2))
  clear hU_q hX_q
  generalize F4.put q _ = F4 at hB_q hE_q ⊢
  have hP4 := hE_q _ _ hP3
  have hX := hE_p.trans (hE3.trans hE_q)
  have hsm := lsame B.d B.nx B.d B.nx rs ss A1 A2 c1 c2 F4 (hr1.mono hX) (hr2.mono hE_q) (fun r h => (ho1 r h).mono hX) (fun r h => (ho2 r h).mono hE_q) (by have := hs1.1; omega)
  rw [hm1, hm2, show sameB ⟨B.d, B.nx, B.ps⟩ ⟨B.d, B.nx, B.ps⟩ = true from (sameB_iff _ _).2 rfl] at hsm
  ((conv => whnf); repeat (first | (apply load_at; (conv => lhs; whnf); (with_reducible assumption); rfl; (conv => whnf)) | (apply loads_at; (conv => lhs; whnf); (with_reducible assumption); rfl; (conv => whnf)) | (refine ⟨⟨by omega, by omega⟩, ?_⟩; (conv => whnf))))
  refine call_of hsm ?_
  rintro v F5 ⟨rfl, hE5⟩
  (conv => whnf)
  (refine cond_split (fun _ => ?_) (fun h_ => absurd h_ (by simp)); (conv => whnf))
  refine call_of (awake _) ?_
  rintro v F9 ⟨rfl, hF9⟩
  (conv => whnf)
  exact ⟨rfl, hE1.trans (hE3.trans (hE_q.trans (hE5.trans hF9)))⟩
end Go.Proofs.Ytkahpaipciooiad.AlBucketParses

/- The contract of the reply laws' awake; replies as arguments. -/
import Derived.Test.YtkahpaipciooiacRepLaw
namespace Go.Proofs.Ytkahpaipciooiac.Al
open Go Go.Al Go.Proofs Go.RowKit
set_option maxHeartbeats 8000000
set_option maxRecDepth 100000
set_option linter.unusedVariables false
set_option linter.unusedSimpArgs false
theorem awake (F : Heap) : FnK Try.prog 9 #[] F (fun v F' => v = .bool true ∧ Ext F F') := by
  have hde := dec_enc (x := ⟨15, [-3], [97]⟩) (by decide) (by decide) (by decide) (by decide) (by
    intro n hn
    rw [List.mem_singleton.1 hn]
    exact ⟨by decide, by decide⟩)
  have hel : (encR ⟨15, [-3], [97]⟩).length ≤ 10000 := by unfold encR; simp [beM_len]
  have he := fun g G hg => encode 15 [-3] [97] (some ⟨g, 0, none⟩) 1 G hg (by decide) (by decide) (by decide)
  obtain ⟨h1, h2⟩ := hde
  generalize encR ⟨15, [-3], [97]⟩ = en at h1 h2 hel he
  have hd := fun A c G hg hc => decode en A c G hg hel hc
  unfold DecR at hd
  rw [h2] at hd
  dsimp only at hd
  generalize okR en = ok at h1 hd
  (refine fn_walk tab_ok Try.func9 rfl rfl rfl rfl ?_; (conv => whnf))
  refine new_step (.cells #[.int .i64 (-3)] 3) rfl fun u h0_u => ?_
  have hE_u := Ext.new h0_u (.cells #[.int .i64 (-3)] 3)
  have hB_u := Heap.put_same F u (.cells #[.int .i64 (-3)] 3)
  generalize F.put u _ = F1 at hE_u hB_u ⊢
  have hrow : RowAt F1 (some ⟨u, 0, none⟩) (([-3] : List Int).map (.int .i64)) := row_blk hB_u
  (conv => whnf)
  refine call_of (he u F1 hrow) ?_
  rintro v F2 hM
  obtain ⟨A2, c2, rfl, hc2, hR2⟩ := hM.own.row
  have hE2 := hE_u.trans hM.ext
  (conv => whnf)
  refine call_of (hd A2 c2 F2 hR2 hc2) ?_
  rintro v F3 ⟨hv, hE3⟩
  replace hE3 := hE2.trans hE3
  rcases hv with ⟨_, A3, c3, rfl, hR3, _⟩ | ⟨h3, _⟩
  case inr => exact absurd h1 h3
  obtain ⟨ad, rfl, hcell⟩ : ∃ ad, A3 = some ad ∧ F3.cell? (ad.add 0) = some (.int .i64 (-3)) := hR3 0 _ rfl
  (conv => whnf)
  refine new_step (zeroR) rfl fun q h0_q => ?_
  have hU_q := Heap.put_same F3 q (zeroR)
  have hX_q := fun o => (ext_put_put h0_q (o := zeroR) (o' := o))
  generalize F3.put q (zeroR) = F4 at hU_q hX_q ⊢
  (conv => whnf)
  refine store_step q 0 _ (rpC 15 (.slice (some ad) 1 c3) [97]) rfl hU_q rfl rfl (.inl (Nat.le_refl 0)) (osR _ _ _ _ _) ?_
  have hB_q := Heap.put_same F4 q (rpO 15 (.slice (some ad) 1 c3) [97])
  have hE_q := hX_q (rpO 15 (.slice (some ad) 1 c3) [97])
  clear hU_q hX_q
  generalize F4.put q _ = F4 at hB_q hE_q ⊢
  have hcell4 := hE_q.cell hcell
  ((conv => whnf); repeat (first | (apply load_at; (conv => lhs; whnf); (with_reducible assumption); rfl; (conv => whnf)) | (apply loads_at; (conv => lhs; whnf); (with_reducible assumption); rfl; (conv => whnf)) | (refine ⟨⟨by omega, by omega⟩, ?_⟩; (conv => whnf))))
  refine load_step hcell4 ?_
  ((conv => whnf); repeat (first | (apply load_at; (conv => lhs; whnf); (with_reducible assumption); rfl; (conv => whnf)) | (apply loads_at; (conv => lhs; whnf); (with_reducible assumption); rfl; (conv => whnf)) | (refine ⟨⟨by omega, by omega⟩, ?_⟩; (conv => whnf))))
  (refine cond_split (fun _ => ?_) (fun h_ => absurd h_ (by simp)); (conv => whnf))
  ((conv => whnf); repeat (first | (apply load_at; (conv => lhs; whnf); (with_reducible assumption); rfl; (conv => whnf)) | (apply loads_at; (conv => lhs; whnf); (with_reducible assumption); rfl; (conv => whnf)) | (refine ⟨⟨by omega, by omega⟩, ?_⟩; (conv => whnf))))
  refine call_of (done 15 (.slice (some ad) 1 c3) [97] F4) ?_
  rintro v F5 ⟨rfl, hE5⟩
  (conv => whnf)
  exact ⟨rfl, hE3.trans (hE_q.trans hE5)⟩
theorem ba_list (s : ByteArray) : ∃ l : List UInt8, s = ⟨l.toArray⟩ ∧ l.length = s.size := by
  obtain ⟨⟨l⟩⟩ := s
  exact ⟨l, rfl, rfl⟩
abbrev rpWf : Int × (List Int × ByteArray) → Prop := (fun p => (fun n => (Lit.int .i64 n).wf = true) p.1 ∧ (fun p => (fun xs => xs.length ≤ maxLen ∧ ∀ x ∈ xs, (fun n => (Lit.int .i64 n).wf = true) x) p.1 ∧ (fun s => s.size ≤ maxLen) p.2) p.2)
abbrev rpK : Kind (Int × (List Int × ByteArray)) := kPair 1 (kInt .i64) (kPair 1 (kSlice 1 (kInt .i64)) kStr)
theorem rp_open {F : Heap} {x : Int × (List Int × ByteArray)} {cs : Array Value} (w : rpWf x) (h : rpK F x cs.toList) : ∃ (k : Int) (ns : List Int) (t : List UInt8) (A : Option Addr) (c : Nat), cs = rpC k (.slice A ns.length c) t ∧ ns.length ≤ c ∧ RowAt F A (ns.map (.int .i64)) ∧ in64 k ∧ ∀ n ∈ ns, in64 n := by
  obtain ⟨k, ns, s⟩ := x
  obtain ⟨c1, d1, e1, _, rfl, c2, d2, rfl, _, ⟨A, c, rfl, hc, hE⟩, rfl⟩ := h
  obtain ⟨t, rfl, ht⟩ := ba_list s
  refine ⟨k, ns, t, A, c, ?_, hc, elems_ints hE, ?_, fun n hn => ?_⟩
  · rw [← Array.toList_inj, e1]
    rfl
  · exact wf_i64 w.1
  · exact wf_i64 (w.2.1.2 n hn)
end Go.Proofs.Ytkahpaipciooiac.Al

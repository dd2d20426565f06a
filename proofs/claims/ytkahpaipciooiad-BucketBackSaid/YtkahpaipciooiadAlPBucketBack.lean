/- The law BucketBack holds of the program: proved over what is known of memory, each function by its contract. -/
import Derived.Test.YtkahpaipciooiadAlLawBucketBack
import Derived.Test.YtkahpaipciooiadBktOpen
namespace Go.Proofs.Ytkahpaipciooiad.AlBucketBack
open Go Go.Al Go.Proofs Go.RowKit Go.Proofs.Ytkahpaipciooiad.Al
set_option maxHeartbeats 8000000
set_option maxRecDepth 100000
set_option linter.unusedVariables false
set_option linter.unusedSimpArgs false
theorem law : LawK := by
  intro F x0 w0 cs0 hK0 x1 w1 K kc hkc hK1
  obtain ⟨d, nx, rs, A, c, rfl, hrc, hr, hok⟩ := bk_open w0 hK0
  obtain ⟨b, rfl⟩ := bytes_of_wf w1.2
  have hb : RowAt F K (bytesOf b) := elems_bytes hK1
  clear hK0 w0 hK1 w1
  rw [List.length_map] at hkc
  simp only [List.length_map]
  have f1 := fun G hg => few rs A c 60 G hg (by decide)
  have s1 : fewB rs 60 = true → Sm rs := few_sm
  generalize fewB rs 60 = z1 at f1 s1
  (refine fn_walk tab_ok Try.func4 rfl rfl rfl rfl ?_; (conv => whnf))
  refine new_step (bkO d nx (.slice A rs.length c)) rfl fun p h0_p => ?_
  have hE_p := Ext.new h0_p (bkO d nx (.slice A rs.length c))
  have hB_p := Heap.put_same F p (bkO d nx (.slice A rs.length c))
  generalize F.put p _ = F1 at hE_p hB_p ⊢
  ((conv => whnf); repeat (first | (apply load_at; (conv => lhs; whnf); (with_reducible assumption); rfl; (conv => whnf)) | (apply loads_at; (conv => lhs; whnf); (with_reducible assumption); rfl; (conv => whnf)) | (refine ⟨⟨by omega, by omega⟩, ?_⟩; (conv => whnf))))
  refine call_of (f1 F1 (hr.mono hE_p)) ?_
  rintro v F2 ⟨rfl, hE2⟩
  have hP2 := hE2 _ _ hB_p
  replace hE2 := hE_p.trans hE2
  cases z1 with
  | false =>
    ((conv => whnf); repeat (first | (apply load_at; (conv => lhs; whnf); (with_reducible assumption); rfl; (conv => whnf)) | (apply loads_at; (conv => lhs; whnf); (with_reducible assumption); rfl; (conv => whnf)) | (refine ⟨⟨by omega, by omega⟩, ?_⟩; (conv => whnf))))
    refine call_of (awake _) ?_
    rintro v F9 ⟨rfl, hF9⟩
    (conv => whnf)
    exact ⟨rfl, hE2.trans hF9⟩
  | true =>
  ((conv => whnf); repeat (first | (apply load_at; (conv => lhs; whnf); (with_reducible assumption); rfl; (conv => whnf)) | (apply loads_at; (conv => lhs; whnf); (with_reducible assumption); rfl; (conv => whnf)) | (refine ⟨⟨by omega, by omega⟩, ?_⟩; (conv => whnf))))
  refine cond_split (fun h => ?_) (fun h => ?_)
  · ((conv => whnf); repeat (first | (apply load_at; (conv => lhs; whnf); (with_reducible assumption); rfl; (conv => whnf)) | (apply loads_at; (conv => lhs; whnf); (with_reducible assumption); rfl; (conv => whnf)) | (refine ⟨⟨by omega, by omega⟩, ?_⟩; (conv => whnf))))
    refine call_of (awake _) ?_
    rintro v F9 ⟨rfl, hF9⟩
    (conv => whnf)
    exact ⟨rfl, hE2.trans hF9⟩
  have hbl : b.length ≤ 1000 := by
    have h : decide ((b.length : Int) > 1000) = false := h
    have := of_decide_eq_false h
    omega
  clear h f1 hB_p hE_p
  replace s1 := s1 rfl
  have hsl := s1.1
  have hput := put d nx rs A c F2 (hr.mono hE2) (fun r h => (hok r h).mono hE2) s1
  have hnil : (Value.slice none 0 0) = .slice none 0 0 := rfl
  ((conv => whnf); repeat (first | (apply load_at; (conv => lhs; whnf); (with_reducible assumption); rfl; (conv => whnf)) | (apply loads_at; (conv => lhs; whnf); (with_reducible assumption); rfl; (conv => whnf)) | (refine ⟨⟨by omega, by omega⟩, ?_⟩; (conv => whnf))))
  refine call_of hput ?_
  rintro v F3 hv
  rcases hv with ⟨hmy0, S3, rfl, hM3⟩ | ⟨hmy0, rfl, hE3⟩
  · have hmp := (mayB_iff _).1 hmy0
    have hpp := parse_put hmp
    have hpl := pageB_len hmp
    obtain ⟨A3, c3, rfl, hc3, hR3⟩ := hM3.own.row
    have hP3 := hM3.ext _ _ hP2
    have hE3 := hE2.trans hM3.ext
    have hpr := parse _ A3 c3 F3 hR3 (by omega) (by omega)
    rw [hpl] at hpr
    (conv => whnf)
    refine call_of hpr ?_
    rintro v F4 ⟨hv, hE4⟩
    have hP4 := hE4 _ _ hP3
    replace hE4 := hE3.trans hE4
    rcases hv with ⟨B4, rs4, A4, c4, h1, h2, rfl, hr4, ho4, hs4⟩ | ⟨h1, _⟩
    case inr => rw [hpp] at h1; cases h1
    rw [hpp] at h1
    obtain rfl := Option.some.inj h1
    (conv => whnf)
    refine new_step (zeroB) rfl fun u h0_u => ?_
    have hU_u := Heap.put_same F4 u (zeroB)
    have hX_u := fun o => (ext_put_put h0_u (o := zeroB) (o' := o))
    generalize F4.put u (zeroB) = F5 at hU_u hX_u ⊢
    (conv => whnf)
    refine store_step u 0 _ (bkC d nx (.slice A4 rs4.length c4)) rfl hU_u rfl rfl (.inl (Nat.le_refl 0)) (osB _ _ _ _ _) ?_
    have hB_u := Heap.put_same F5 u (bkO d nx (.slice A4 rs4.length c4))
    have hE_u := hX_u (bkO d nx (.slice A4 rs4.length c4))
    clear hU_u hX_u
    generalize F5.put u _ = F5 at hB_u hE_u ⊢
    have hP5 := hE_u _ _ hP4
    replace hE4 := hE4.trans hE_u
    have hsm := lsame d nx d nx rs rs4 A A4 c c4 F5 (hr.mono hE4) (hr4.mono hE_u) (fun r h => (hok r h).mono hE4) (fun r h => (ho4 r h).mono hE_u) (by omega)
    rw [h2, show sameB ⟨d, nx, rs.map pd⟩ ⟨d, nx, rs.map pd⟩ = true from (sameB_iff _ _).2 rfl] at hsm
    ((conv => whnf); repeat (first | (apply load_at; (conv => lhs; whnf); (with_reducible assumption); rfl; (conv => whnf)) | (apply loads_at; (conv => lhs; whnf); (with_reducible assumption); rfl; (conv => whnf)) | (refine ⟨⟨by omega, by omega⟩, ?_⟩; (conv => whnf))))
    refine call_of hsm ?_
    rintro v F6 ⟨rfl, hE6⟩
    replace hE6 := hE4.trans hE6
    refine short [1, 36, 37, 40] [.slice K b.length kc, .bool false, .bool false, .bool true] rfl fun ρ => ?_
    have hpr := parse b K kc F6 (hb.mono hE6) hbl hkc
    (conv => whnf)
    refine call_of hpr ?_
    rintro v G1 ⟨hv, hE1⟩
    replace hE1 := (hE6).trans hE1
    rcases hv with ⟨B, rs2, A2, c2, h1, h2, rfl, hr2, ho2, hs2⟩ | ⟨h1, rfl⟩
    · obtain ⟨hmy, hpg⟩ := parse_some h1
      (conv => whnf)
      refine new_step (zeroB) rfl fun q h0_q => ?_
      have hU_q := Heap.put_same G1 q (zeroB)
      have hX_q := fun o => (ext_put_put h0_q (o := zeroB) (o' := o))
      generalize G1.put q (zeroB) = G2 at hU_q hX_q ⊢
      (conv => whnf)
      refine store_step q 0 _ (bkC B.d B.nx (.slice A2 rs2.length c2)) rfl hU_q rfl rfl (.inl (Nat.le_refl 0)) (osB _ _ _ _ _) ?_
      have hB_q := Heap.put_same G2 q (bkO B.d B.nx (.slice A2 rs2.length c2))
      have hE_q := hX_q (bkO B.d B.nx (.slice A2 rs2.length c2))
      clear hU_q hX_q
      generalize G2.put q _ = G2 at hB_q hE_q ⊢
      replace hE1 := hE1.trans hE_q
      refine short [1, 9, 47] [.slice K b.length kc, .pointer (some ⟨q, 0, none⟩), .int .i64 0] rfl fun ρ => ?_
      ((conv => whnf); repeat (first | (apply load_at; (conv => lhs; whnf); (with_reducible assumption); rfl; (conv => whnf)) | (apply loads_at; (conv => lhs; whnf); (with_reducible assumption); rfl; (conv => whnf)) | (refine ⟨⟨by omega, by omega⟩, ?_⟩; (conv => whnf))))
      refine call_of (put B.d B.nx rs2 A2 c2 G2 (hr2.mono hE_q) (fun r h => (ho2 r h).mono hE_q) hs2) ?_
      rintro v G3 hv
      rw [h2] at hv
      rcases hv with ⟨_, S3, rfl, hM3⟩ | ⟨h3, _⟩
      case inr => have h3 : mayB B = false := h3; rw [hmy] at h3; cases h3
      obtain ⟨A3, c3, rfl, hc3, hR3⟩ := hM3.own.row
      have hR3 : RowAt G3 A3 (bytesOf b) := by rw [← hpg]; exact hR3
      have hl3 : b.length = 240 := by rw [← hpg]; exact pageB_len ((mayB_iff B).1 hmy)
      have heq := bytesEqual b b A3 K c3 kc G3 hR3 (hb.mono (hE1.trans hM3.ext))
      rw [beq_self_eq_true] at heq
      rw [hl3] at heq ⊢
      ((conv => whnf); repeat (first | (apply load_at; (conv => lhs; whnf); (with_reducible assumption); rfl; (conv => whnf)) | (apply loads_at; (conv => lhs; whnf); (with_reducible assumption); rfl; (conv => whnf)) | (refine ⟨⟨by omega, by omega⟩, ?_⟩; (conv => whnf))))
      refine call_of heq ?_
      rintro v G4 ⟨rfl, rfl⟩
      ((conv => whnf); repeat (first | (apply load_at; (conv => lhs; whnf); (with_reducible assumption); rfl; (conv => whnf)) | (apply loads_at; (conv => lhs; whnf); (with_reducible assumption); rfl; (conv => whnf)) | (refine ⟨⟨by omega, by omega⟩, ?_⟩; (conv => whnf))))
      refine call_of (awake _) ?_
      rintro v G5 ⟨rfl, hG5⟩
      (conv => whnf)
      exact ⟨rfl, hE1.trans (hM3.ext.trans hG5)⟩
    · (conv => whnf)
      refine new_step (zeroB) rfl fun q h0_q => ?_
      have hU_q := Heap.put_same G1 q (zeroB)
      have hX_q := fun o => (ext_put_put h0_q (o := zeroB) (o' := o))
      generalize G1.put q (zeroB) = G2 at hU_q hX_q ⊢
      (conv => whnf)
      refine store_step q 0 _ (bkC 0 0 (.slice none 0 0)) rfl hU_q rfl rfl (.inl (Nat.le_refl 0)) (osB _ _ _ _ _) ?_
      have hB_q := Heap.put_same G2 q (bkO 0 0 (.slice none 0 0))
      have hE_q := hX_q (bkO 0 0 (.slice none 0 0))
      clear hU_q hX_q
      generalize G2.put q _ = G2 at hB_q hE_q ⊢
      replace hE1 := hE1.trans hE_q
      refine short [1, 9, 47] [.slice K b.length kc, .pointer (some ⟨q, 0, none⟩), .int .i64 4] rfl fun ρ => ?_
      have hsm := lsame 0 0 0 0 [] [] none none 0 0 G2 (RowAt.nil _ _) (RowAt.nil _ _) (fun r h => by cases h) (fun r h => by cases h) (by simp)
      rw [show sameB ⟨0, 0, List.map pd []⟩ ⟨0, 0, List.map pd []⟩ = true from (sameB_iff _ _).2 rfl] at hsm
      ((conv => whnf); repeat (first | (apply load_at; (conv => lhs; whnf); (with_reducible assumption); rfl; (conv => whnf)) | (apply loads_at; (conv => lhs; whnf); (with_reducible assumption); rfl; (conv => whnf)) | (refine ⟨⟨by omega, by omega⟩, ?_⟩; (conv => whnf))))
      refine call_of hsm ?_
      rintro v G3 ⟨rfl, hE3⟩
      ((conv => whnf); repeat (first | (apply load_at; (conv => lhs; whnf); (with_reducible assumption); rfl; (conv => whnf)) | (apply loads_at; (conv => lhs; whnf); (with_reducible assumption); rfl; (conv => whnf)) | (refine ⟨⟨by omega, by omega⟩, ?_⟩; (conv => whnf))))
      refine call_of (awake _) ?_
      rintro v G4 ⟨rfl, hG4⟩
      (conv => whnf)
      exact ⟨rfl, hE1.trans (hE3.trans hG4)⟩
  · refine short [1, 25] [.slice K b.length kc, .tuple #[.slice none 0 0, .int .i64 1]] rfl fun ρ => ?_
    replace hE3 := hE2.trans hE3
    have hpr := parse b K kc F3 (hb.mono hE3) hbl hkc
    (conv => whnf)
    refine call_of hpr ?_
    rintro v G1 ⟨hv, hE1⟩
    replace hE1 := (hE3).trans hE1
    rcases hv with ⟨B, rs2, A2, c2, h1, h2, rfl, hr2, ho2, hs2⟩ | ⟨h1, rfl⟩
    · obtain ⟨hmy, hpg⟩ := parse_some h1
      (conv => whnf)
      refine new_step (zeroB) rfl fun q h0_q => ?_
      have hU_q := Heap.put_same G1 q (zeroB)
      have hX_q := fun o => (ext_put_put h0_q (o := zeroB) (o' := o))
      generalize G1.put q (zeroB) = G2 at hU_q hX_q ⊢
      (conv => whnf)
      refine store_step q 0 _ (bkC B.d B.nx (.slice A2 rs2.length c2)) rfl hU_q rfl rfl (.inl (Nat.le_refl 0)) (osB _ _ _ _ _) ?_
      have hB_q := Heap.put_same G2 q (bkO B.d B.nx (.slice A2 rs2.length c2))
      have hE_q := hX_q (bkO B.d B.nx (.slice A2 rs2.length c2))
      clear hU_q hX_q
      generalize G2.put q _ = G2 at hB_q hE_q ⊢
      replace hE1 := hE1.trans hE_q
      refine short [1, 9, 47] [.slice K b.length kc, .pointer (some ⟨q, 0, none⟩), .int .i64 0] rfl fun ρ => ?_
      ((conv => whnf); repeat (first | (apply load_at; (conv => lhs; whnf); (with_reducible assumption); rfl; (conv => whnf)) | (apply loads_at; (conv => lhs; whnf); (with_reducible assumption); rfl; (conv => whnf)) | (refine ⟨⟨by omega, by omega⟩, ?_⟩; (conv => whnf))))
      refine call_of (put B.d B.nx rs2 A2 c2 G2 (hr2.mono hE_q) (fun r h => (ho2 r h).mono hE_q) hs2) ?_
      rintro v G3 hv
      rw [h2] at hv
      rcases hv with ⟨_, S3, rfl, hM3⟩ | ⟨h3, _⟩
      case inr => have h3 : mayB B = false := h3; rw [hmy] at h3; cases h3
      obtain ⟨A3, c3, rfl, hc3, hR3⟩ := hM3.own.row
      have hR3 : RowAt G3 A3 (bytesOf b) := by rw [← hpg]; exact hR3
      have hl3 : b.length = 240 := by rw [← hpg]; exact pageB_len ((mayB_iff B).1 hmy)
      have heq := bytesEqual b b A3 K c3 kc G3 hR3 (hb.mono (hE1.trans hM3.ext))
      rw [beq_self_eq_true] at heq
      rw [hl3] at heq ⊢
      ((conv => whnf); repeat (first | (apply load_at; (conv => lhs; whnf); (with_reducible assumption); rfl; (conv => whnf)) | (apply loads_at; (conv => lhs; whnf); (with_reducible assumption); rfl; (conv => whnf)) | (refine ⟨⟨by omega, by omega⟩, ?_⟩; (conv => whnf))))
      refine call_of heq ?_
      rintro v G4 ⟨rfl, rfl⟩
      ((conv => whnf); repeat (first | (apply load_at; (conv => lhs; whnf); (with_reducible assumption); rfl; (conv => whnf)) | (apply loads_at; (conv => lhs; whnf); (with_reducible assumption); rfl; (conv => whnf)) | (refine ⟨⟨by omega, by omega⟩, ?_⟩; (conv => whnf))))
      refine call_of (awake _) ?_
      rintro v G5 ⟨rfl, hG5⟩
      (conv => whnf)
      exact ⟨rfl, hE1.trans (hM3.ext.trans hG5)⟩
    · (conv => whnf)
      refine new_step (zeroB) rfl fun q h0_q => ?_
      have hU_q := Heap.put_same G1 q (zeroB)
      have hX_q := fun o => (ext_put_put h0_q (o := zeroB) (o' := o))
      generalize G1.put q (zeroB) = G2 at hU_q hX_q ⊢
      (conv => whnf)
      refine store_step q 0 _ (bkC 0 0 (.slice none 0 0)) rfl hU_q rfl rfl (.inl (Nat.le_refl 0)) (osB _ _ _ _ _) ?_
      have hB_q := Heap.put_same G2 q (bkO 0 0 (.slice none 0 0))
      have hE_q := hX_q (bkO 0 0 (.slice none 0 0))
      clear hU_q hX_q
      generalize G2.put q _ = G2 at hB_q hE_q ⊢
      replace hE1 := hE1.trans hE_q
      refine short [1, 9, 47] [.slice K b.length kc, .pointer (some ⟨q, 0, none⟩), .int .i64 4] rfl fun ρ => ?_
      have hsm := lsame 0 0 0 0 [] [] none none 0 0 G2 (RowAt.nil _ _) (RowAt.nil _ _) (fun r h => by cases h) (fun r h => by cases h) (by simp)
      rw [show sameB ⟨0, 0, List.map pd []⟩ ⟨0, 0, List.map pd []⟩ = true from (sameB_iff _ _).2 rfl] at hsm
      ((conv => whnf); repeat (first | (apply load_at; (conv => lhs; whnf); (with_reducible assumption); rfl; (conv => whnf)) | (apply loads_at; (conv => lhs; whnf); (with_reducible assumption); rfl; (conv => whnf)) | (refine ⟨⟨by omega, by omega⟩, ?_⟩; (conv => whnf))))
      refine call_of hsm ?_
      rintro v G3 ⟨rfl, hE3⟩
      ((conv => whnf); repeat (first | (apply load_at; (conv => lhs; whnf); (with_reducible assumption); rfl; (conv => whnf)) | (apply loads_at; (conv => lhs; whnf); (with_reducible assumption); rfl; (conv => whnf)) | (refine ⟨⟨by omega, by omega⟩, ?_⟩; (conv => whnf))))
      refine call_of (awake _) ?_
      rintro v G4 ⟨rfl, hG4⟩
      (conv => whnf)
      exact ⟨rfl, hE1.trans (hE3.trans hG4)⟩
end Go.Proofs.Ytkahpaipciooiad.AlBucketBack

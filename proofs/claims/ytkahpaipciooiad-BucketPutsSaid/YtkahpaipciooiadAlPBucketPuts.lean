/- The law BucketPuts holds of the program: proved over what is known of memory, each function by its contract. -/
import Derived.Test.YtkahpaipciooiadAlLawBucketPuts
import Derived.Test.YtkahpaipciooiadBktOpen
namespace Go.Proofs.Ytkahpaipciooiad.AlBucketPuts
open Go Go.Al Go.Proofs Go.RowKit Go.Proofs.Ytkahpaipciooiad.Al
set_option maxHeartbeats 8000000
set_option maxRecDepth 100000
set_option linter.unusedVariables false
set_option linter.unusedSimpArgs false
theorem put2 {F0 F : Heap} {b : BD} {v : Value} (h : PutR F0 b v F) : ∃ (l : List UInt8) (A : Option Addr) (c : Nat) (e : Int), v = .tuple #[.slice A l.length c, .int .i64 e] ∧ RowAt F A (bytesOf l) ∧ Ext F0 F ∧ ((mayB b = true ∧ l = pageB b ∧ e = 0) ∨ (mayB b = false ∧ l = [] ∧ e = 1)) := by
  rcases h with ⟨h1, S, rfl, hM⟩ | ⟨h1, rfl, hE⟩
  · obtain ⟨A, c, rfl, _, hR⟩ := hM.own.row
    refine ⟨pageB b, A, c, 0, ?_, hR, hM.ext, .inl ⟨h1, rfl, rfl⟩⟩
    rw [pageB_len ((mayB_iff b).1 h1)]
  · exact ⟨[], none, 0, 1, rfl, RowAt.nil _ _, hE, .inr ⟨h1, rfl, rfl⟩⟩
theorem law : LawK := by
  intro F x0 w0 cs0 hK0 x1 w1 cs1 hK1 x2 w2 K kc hkc hK2
  obtain ⟨d, nx, rs, A, c, rfl, hrc, hr, hok⟩ := bk_open w0 hK0
  obtain ⟨d', nx', ss, B, c', rfl, hsc, hs, hos⟩ := bk_open w1 hK1
  obtain ⟨key, rfl⟩ := bytes_of_wf w2.2
  have hk : RowAt F K (bytesOf key) := elems_bytes hK2
  clear hK0 w0 hK1 w1 hK2 w2
  rw [List.length_map] at hkc
  simp only [List.length_map]
  have f1 := fun G hg => few rs A c 60 G hg (by decide)
  have f2 := fun G hg => few ss B c' 60 G hg (by decide)
  have s1 : fewB rs 60 = true → Sm rs := few_sm
  have s2 : fewB ss 60 = true → Sm ss := few_sm
  generalize fewB rs 60 = z1 at f1 s1
  generalize fewB ss 60 = z2 at f2 s2
  (refine fn_walk tab_ok Try.func5 rfl rfl rfl rfl ?_; (conv => whnf))
  refine new_step (bkO d nx (.slice A rs.length c)) rfl fun b h0_b => ?_
  have hE_b := Ext.new h0_b (bkO d nx (.slice A rs.length c))
  have hB_b := Heap.put_same F b (bkO d nx (.slice A rs.length c))
  generalize F.put b _ = F1 at hE_b hB_b ⊢
  (conv => whnf)
  refine new_step (bkO d' nx' (.slice B ss.length c')) rfl fun g h0_g => ?_
  have hE_g := Ext.new h0_g (bkO d' nx' (.slice B ss.length c'))
  have hB_g := Heap.put_same F1 g (bkO d' nx' (.slice B ss.length c'))
  generalize F1.put g _ = F2 at hE_g hB_g ⊢
  have hB2 := hE_g _ _ hB_b
  have hE2 := hE_b.trans hE_g
  clear hE_b hE_g hB_b
  ((conv => whnf); repeat (first | (apply load_at; (conv => lhs; whnf); (with_reducible assumption); rfl; (conv => whnf)) | (apply loads_at; (conv => lhs; whnf); (with_reducible assumption); rfl; (conv => whnf)) | (refine ⟨⟨by omega, by omega⟩, ?_⟩; (conv => whnf))))
  refine call_of (f1 F2 (hr.mono hE2)) ?_
  rintro v F3 ⟨rfl, hE3⟩
  have hB3 := hE3 _ _ hB2
  have hG3 := hE3 _ _ hB_g
  replace hE3 := hE2.trans hE3
  cases z1 with
  | false =>
    ((conv => whnf); repeat (first | (apply load_at; (conv => lhs; whnf); (with_reducible assumption); rfl; (conv => whnf)) | (apply loads_at; (conv => lhs; whnf); (with_reducible assumption); rfl; (conv => whnf)) | (refine ⟨⟨by omega, by omega⟩, ?_⟩; (conv => whnf))))
    refine call_of (awake _) ?_
    rintro v F9 ⟨rfl, hF9⟩
    (conv => whnf)
    exact ⟨rfl, hE3.trans hF9⟩
  | true =>
  ((conv => whnf); repeat (first | (apply load_at; (conv => lhs; whnf); (with_reducible assumption); rfl; (conv => whnf)) | (apply loads_at; (conv => lhs; whnf); (with_reducible assumption); rfl; (conv => whnf)) | (refine ⟨⟨by omega, by omega⟩, ?_⟩; (conv => whnf))))
  refine call_of (f2 F3 (hs.mono hE3)) ?_
  rintro v F4 ⟨rfl, hE4⟩
  have hB4 := hE4 _ _ hB3
  have hG4 := hE4 _ _ hG3
  replace hE4 := hE3.trans hE4
  cases z2 with
  | false =>
    ((conv => whnf); repeat (first | (apply load_at; (conv => lhs; whnf); (with_reducible assumption); rfl; (conv => whnf)) | (apply loads_at; (conv => lhs; whnf); (with_reducible assumption); rfl; (conv => whnf)) | (refine ⟨⟨by omega, by omega⟩, ?_⟩; (conv => whnf))))
    refine call_of (awake _) ?_
    rintro v F9 ⟨rfl, hF9⟩
    (conv => whnf)
    exact ⟨rfl, hE4.trans hF9⟩
  | true =>
  ((conv => whnf); repeat (first | (apply load_at; (conv => lhs; whnf); (with_reducible assumption); rfl; (conv => whnf)) | (apply loads_at; (conv => lhs; whnf); (with_reducible assumption); rfl; (conv => whnf)) | (refine ⟨⟨by omega, by omega⟩, ?_⟩; (conv => whnf))))
  refine cond_split (fun h => ?_) (fun h => ?_)
  · ((conv => whnf); repeat (first | (apply load_at; (conv => lhs; whnf); (with_reducible assumption); rfl; (conv => whnf)) | (apply loads_at; (conv => lhs; whnf); (with_reducible assumption); rfl; (conv => whnf)) | (refine ⟨⟨by omega, by omega⟩, ?_⟩; (conv => whnf))))
    refine call_of (awake _) ?_
    rintro v F9 ⟨rfl, hF9⟩
    (conv => whnf)
    exact ⟨rfl, hE4.trans hF9⟩
  clear h f1 f2
  replace s1 := s1 rfl
  replace s2 := s2 rfl
  have hsl := s1.1
  clear hB2 hB3 hG3 hE2 hE3 hB_g
  ((conv => whnf); repeat (first | (apply load_at; (conv => lhs; whnf); (with_reducible assumption); rfl; (conv => whnf)) | (apply loads_at; (conv => lhs; whnf); (with_reducible assumption); rfl; (conv => whnf)) | (refine ⟨⟨by omega, by omega⟩, ?_⟩; (conv => whnf))))
  refine call_of (put d nx rs A c F4 (hr.mono hE4) (fun r h => (hok r h).mono hE4) s1) ?_
  intro v F5 hv
  obtain ⟨l1, A1, c1, e1, rfl, hR1, hE5, hv1⟩ := put2 hv
  have hB5 := hE5 _ _ hB4
  have hG5 := hE5 _ _ hG4
  replace hE5 := hE4.trans hE5
  ((conv => whnf); repeat (first | (apply load_at; (conv => lhs; whnf); (with_reducible assumption); rfl; (conv => whnf)) | (apply loads_at; (conv => lhs; whnf); (with_reducible assumption); rfl; (conv => whnf)) | (refine ⟨⟨by omega, by omega⟩, ?_⟩; (conv => whnf))))
  refine call_of (rput d nx rs A c F5 (hr.mono hE5) (fun r h => (hok r h).mono hE5) s1) ?_
  intro v F6 hv
  obtain ⟨l2, A2, c2, e2, rfl, hR2, hE6, hv2⟩ := put2 hv
  have hB6 := hE6 _ _ hB5
  have hG6 := hE6 _ _ hG5
  replace hR1 := hR1.mono hE6
  replace hE6 := hE5.trans hE6
  have hLE : l1 = l2 ∧ e1 = e2 := by
    rcases hv1 with ⟨g1, g2, g3⟩ | ⟨g1, g2, g3⟩ <;> rcases hv2 with ⟨k1, k2, k3⟩ | ⟨k1, k2, k3⟩ <;> simp_all
  obtain ⟨rfl, rfl⟩ := hLE
  clear hv1 hv2 hB4 hG4 hB5 hG5 hE4 hE5
  have heq := bytesEqual l1 l1 A1 A2 c1 c2 F6 hR1 hR2
  rw [beq_self_eq_true] at heq
  generalize hsz : 8 + sumP (rs.map pd) = sz
  have c3 := fun G hg => size d nx rs A c G hg s1
  have c4 := fun G hg => rsize d nx rs A c G hg s1
  have c5 := fun G hg => fits d nx rs A c G hg s1
  rw [hsz] at c3 c4 c5
  have c6 := fun G hg hg2 hg3 => find d nx rs A c key K kc G hg hg2 hg3 hsl
  have c7 := fun G hg hg2 hg3 => rfind d nx rs A c key K kc G hg hg2 hg3 hsl
  generalize findI key (rs.map pd) = fi at c6 c7
  have c8 := fun G g1 g2 g3 g4 => bsame d nx d' nx' rs ss A B c c' G g1 g2 g3 g4 (by omega)
  have c9 := fun G g1 g2 g3 g4 => lsame d nx d' nx' rs ss A B c c' G g1 g2 g3 g4 (by omega)
  generalize sameB ⟨d, nx, rs.map pd⟩ ⟨d', nx', ss.map pd⟩ = sb at c8 c9
  clear hsz
  (conv => whnf)
  refine draw_tree tab_ok (by kernel_rfl) [9, 11, 16, 18, 24, 27, 33, 34, 36, 37] (DT.row [0, 1, 2, 3, 4, 5, 6, 7, 8, 9, 11, 10, 12, 13, 14, 15, 16, 18, 17, 19, 20, 21, 22, 23, 24, 27, 25, 28, 26, 29, 30, 31, 32, 33, 34, 36, 37, 35, 38, 39, 40, 41, 42, 43, 44] .nil) (by kernel_rfl) ?_
  ((conv => whnf); repeat (first | (apply load_at; (conv => lhs; whnf); (with_reducible assumption); rfl; (conv => whnf)) | (apply loads_at; (conv => lhs; whnf); (with_reducible assumption); rfl; (conv => whnf)) | (refine ⟨⟨by omega, by omega⟩, ?_⟩; (conv => whnf))))
  refine call_of heq ?_
  rintro v F6' ⟨rfl, rfl⟩
  refine ⟨Ext.refl _, ?_⟩
  ((conv => whnf); repeat (first | (apply load_at; (conv => lhs; whnf); (with_reducible assumption); rfl; (conv => whnf)) | (apply loads_at; (conv => lhs; whnf); (with_reducible assumption); rfl; (conv => whnf)) | (refine ⟨⟨by omega, by omega⟩, ?_⟩; (conv => whnf))))
  (refine cond_split (fun _ => ?_) (fun h_ => absurd h_ (by simp)); (conv => whnf))
  ((conv => whnf); repeat (first | (apply load_at; (conv => lhs; whnf); (with_reducible assumption); rfl; (conv => whnf)) | (apply loads_at; (conv => lhs; whnf); (with_reducible assumption); rfl; (conv => whnf)) | (refine ⟨⟨by omega, by omega⟩, ?_⟩; (conv => whnf))))
  refine call_of (c3 F6' (hr.mono hE6)) ?_
  rintro v F7 ⟨rfl, hE7⟩
  refine ⟨hE7, ?_⟩
  have hX7 := hE6.trans hE7
  ((conv => whnf); repeat (first | (apply load_at; (conv => lhs; whnf); (with_reducible assumption); rfl; (conv => whnf)) | (apply loads_at; (conv => lhs; whnf); (with_reducible assumption); rfl; (conv => whnf)) | (refine ⟨⟨by omega, by omega⟩, ?_⟩; (conv => whnf))))
  refine call_of (c4 F7 (hr.mono hX7)) ?_
  rintro v F8 ⟨rfl, hE8⟩
  refine ⟨hE7.trans hE8, ?_⟩
  have hX8 := hX7.trans hE8
  ((conv => whnf); repeat (first | (apply load_at; (conv => lhs; whnf); (with_reducible assumption); rfl; (conv => whnf)) | (apply loads_at; (conv => lhs; whnf); (with_reducible assumption); rfl; (conv => whnf)) | (refine ⟨⟨by omega, by omega⟩, ?_⟩; (conv => whnf))))
  (refine cond_split (fun _ => ?_) (fun h_ => absurd h_ (by simp)); (conv => whnf))
  ((conv => whnf); repeat (first | (apply load_at; (conv => lhs; whnf); (with_reducible assumption); rfl; (conv => whnf)) | (apply loads_at; (conv => lhs; whnf); (with_reducible assumption); rfl; (conv => whnf)) | (refine ⟨⟨by omega, by omega⟩, ?_⟩; (conv => whnf))))
  refine call_of (c5 F8 (hr.mono hX8)) ?_
  rintro v F9 ⟨rfl, hE9⟩
  refine ⟨hE7.trans (hE8.trans hE9), ?_⟩
  have hX9 := hX8.trans hE9
  ((conv => whnf); repeat (first | (apply load_at; (conv => lhs; whnf); (with_reducible assumption); rfl; (conv => whnf)) | (apply loads_at; (conv => lhs; whnf); (with_reducible assumption); rfl; (conv => whnf)) | (refine ⟨⟨by omega, by omega⟩, ?_⟩; (conv => whnf))))
  refine call_of (c4 F9 (hr.mono hX9)) ?_
  rintro v F10 ⟨rfl, hE10⟩
  have hZ10 := hE7.trans (hE8.trans (hE9.trans hE10))
  refine ⟨hZ10, ?_⟩
  have hX10 := hX9.trans hE10
  ((conv => whnf); repeat (first | (apply load_at; (conv => lhs; whnf); (with_reducible assumption); rfl; (conv => whnf)) | (apply loads_at; (conv => lhs; whnf); (with_reducible assumption); rfl; (conv => whnf)) | (refine ⟨⟨by omega, by omega⟩, ?_⟩; (conv => whnf))))
  (refine cond_split (fun _ => ?_) (fun h_ => absurd h_ (by simp)); (conv => whnf))
  ((conv => whnf); repeat (first | (apply load_at; (conv => lhs; whnf); (with_reducible assumption); rfl; (conv => whnf)) | (apply loads_at; (conv => lhs; whnf); (with_reducible assumption); rfl; (conv => whnf)) | (refine ⟨⟨by omega, by omega⟩, ?_⟩; (conv => whnf))))
  refine call_of (c6 F10 (hr.mono hX10) (fun r h => (hok r h).mono hX10) (hk.mono hX10)) ?_
  rintro v F11 ⟨rfl, hE11⟩
  replace hZ10 := hZ10.trans hE11
  refine ⟨hZ10, ?_⟩
  have hX11 := hX10.trans hE11
  ((conv => whnf); repeat (first | (apply load_at; (conv => lhs; whnf); (with_reducible assumption); rfl; (conv => whnf)) | (apply loads_at; (conv => lhs; whnf); (with_reducible assumption); rfl; (conv => whnf)) | (refine ⟨⟨by omega, by omega⟩, ?_⟩; (conv => whnf))))
  refine call_of (c7 F11 (hr.mono hX11) (fun r h => (hok r h).mono hX11) (hk.mono hX11)) ?_
  rintro v F12 ⟨rfl, hE12⟩
  replace hZ10 := hZ10.trans hE12
  refine ⟨hZ10, ?_⟩
  have hX12 := hX11.trans hE12
  ((conv => whnf); repeat (first | (apply load_at; (conv => lhs; whnf); (with_reducible assumption); rfl; (conv => whnf)) | (apply loads_at; (conv => lhs; whnf); (with_reducible assumption); rfl; (conv => whnf)) | (refine ⟨⟨by omega, by omega⟩, ?_⟩; (conv => whnf))))
  (refine cond_split (fun _ => ?_) (fun h_ => absurd h_ (by simp)); (conv => whnf))
  ((conv => whnf); repeat (first | (apply load_at; (conv => lhs; whnf); (with_reducible assumption); rfl; (conv => whnf)) | (apply loads_at; (conv => lhs; whnf); (with_reducible assumption); rfl; (conv => whnf)) | (refine ⟨⟨by omega, by omega⟩, ?_⟩; (conv => whnf))))
  refine call_of (c8 F12 (hr.mono hX12) (hs.mono hX12) (fun r h => (hok r h).mono hX12) (fun r h => (hos r h).mono hX12)) ?_
  rintro v F13 ⟨rfl, hE13⟩
  replace hZ10 := hZ10.trans hE13
  refine ⟨hZ10, ?_⟩
  have hX13 := hX12.trans hE13
  ((conv => whnf); repeat (first | (apply load_at; (conv => lhs; whnf); (with_reducible assumption); rfl; (conv => whnf)) | (apply loads_at; (conv => lhs; whnf); (with_reducible assumption); rfl; (conv => whnf)) | (refine ⟨⟨by omega, by omega⟩, ?_⟩; (conv => whnf))))
  refine call_of (c9 F13 (hr.mono hX13) (hs.mono hX13) (fun r h => (hok r h).mono hX13) (fun r h => (hos r h).mono hX13)) ?_
  rintro v F14 ⟨rfl, hE14⟩
  replace hZ10 := hZ10.trans hE14
  refine ⟨hZ10, ?_⟩
  have hX14 := hX13.trans hE14
  ((conv => whnf); repeat (first | (apply load_at; (conv => lhs; whnf); (with_reducible assumption); rfl; (conv => whnf)) | (apply loads_at; (conv => lhs; whnf); (with_reducible assumption); rfl; (conv => whnf)) | (refine ⟨⟨by omega, by omega⟩, ?_⟩; (conv => whnf))))
  (refine cond_split (fun _ => ?_) (fun h_ => absurd h_ (by simp)); (conv => whnf))
  ((conv => whnf); repeat (first | (apply load_at; (conv => lhs; whnf); (with_reducible assumption); rfl; (conv => whnf)) | (apply loads_at; (conv => lhs; whnf); (with_reducible assumption); rfl; (conv => whnf)) | (refine ⟨⟨by omega, by omega⟩, ?_⟩; (conv => whnf))))
  refine call_of (awake _) ?_
  rintro v F15 ⟨rfl, hF15⟩
  refine ⟨hZ10.trans hF15, ?_⟩
  (conv => whnf)
  exact ⟨rfl, hX14.trans hF15⟩
end Go.Proofs.Ytkahpaipciooiad.AlBucketPuts

/- The law ReplyEncodes holds of the program: proved over what is known of memory, each function by its contract. -/
import Derived.Test.YtkahpaipciooiacAlLawReplyEncodes
import Derived.Test.YtkahpaipciooiacRepAwake
namespace Go.Proofs.Ytkahpaipciooiac.AlReplyEncodes
open Go Go.Al Go.Proofs Go.RowKit Go.Proofs.Ytkahpaipciooiac.Al
set_option maxHeartbeats 8000000
set_option maxRecDepth 100000
set_option linter.unusedVariables false
set_option linter.unusedSimpArgs false
theorem law : LawK := by
  intro F x0 w0 cs0 hK0 x1 w1 cs1 hK1
  obtain ⟨k, ns, tx, A, c, rfl, hc, hr, _, _⟩ := rp_open w0 hK0
  obtain ⟨k', ns', tx', B, c', rfl, hc', hs, _, _⟩ := rp_open w1 hK1
  clear hK0 w0 hK1 w1
  (refine fn_walk tab_ok Try.func4 rfl rfl rfl rfl ?_; (conv => whnf))
  refine new_step (rpO k (.slice A ns.length c) tx) rfl fun b h0_b => ?_
  have hE_b := Ext.new h0_b (rpO k (.slice A ns.length c) tx)
  have hB_b := Heap.put_same F b (rpO k (.slice A ns.length c) tx)
  generalize F.put b _ = F1 at hE_b hB_b ⊢
  (conv => whnf)
  refine new_step (rpO k' (.slice B ns'.length c') tx') rfl fun g h0_g => ?_
  have hE_g := Ext.new h0_g (rpO k' (.slice B ns'.length c') tx')
  have hB_g := Heap.put_same F1 g (rpO k' (.slice B ns'.length c') tx')
  generalize F1.put g _ = F2 at hE_g hB_g ⊢
  have hB2 := hE_g _ _ hB_b
  have hE2 := hE_b.trans hE_g
  clear hE_b hE_g hB_b
  have aw : ∀ G, Ext F G → FnK Try.prog 9 #[] G (fun v F' => v = .bool true ∧ Ext F F') := fun G hG => (awake G).mono fun v F' ⟨h1, h2⟩ => ⟨h1, hG.trans h2⟩
  ((conv => whnf); repeat (first | (apply load_at; (conv => lhs; whnf); (with_reducible assumption); rfl; (conv => whnf)) | (apply loads_at; (conv => lhs; whnf); (with_reducible assumption); rfl; (conv => whnf)) | (refine ⟨⟨by omega, by omega⟩, ?_⟩; (conv => whnf))))
  refine cond_split (fun h => ?_) (fun h => ?_)
  case refine_2 =>
    ((conv => whnf); repeat (first | (apply load_at; (conv => lhs; whnf); (with_reducible assumption); rfl; (conv => whnf)) | (apply loads_at; (conv => lhs; whnf); (with_reducible assumption); rfl; (conv => whnf)) | (refine ⟨⟨by omega, by omega⟩, ?_⟩; (conv => whnf))))
    refine call_of (aw _ hE2) ?_
    rintro v F9 ⟨rfl, hF9⟩
    (conv => whnf)
    exact ⟨rfl, hF9⟩
  have hl1 : ns.length ≤ 300 := by
    have h : (!decide ((ns.length : Int) > 300)) = true := h
    simp at h
    omega
  clear h
  ((conv => whnf); repeat (first | (apply load_at; (conv => lhs; whnf); (with_reducible assumption); rfl; (conv => whnf)) | (apply loads_at; (conv => lhs; whnf); (with_reducible assumption); rfl; (conv => whnf)) | (refine ⟨⟨by omega, by omega⟩, ?_⟩; (conv => whnf))))
  refine cond_split (fun h => ?_) (fun h => ?_)
  case refine_2 =>
    ((conv => whnf); repeat (first | (apply load_at; (conv => lhs; whnf); (with_reducible assumption); rfl; (conv => whnf)) | (apply loads_at; (conv => lhs; whnf); (with_reducible assumption); rfl; (conv => whnf)) | (refine ⟨⟨by omega, by omega⟩, ?_⟩; (conv => whnf))))
    refine call_of (aw _ hE2) ?_
    rintro v F9 ⟨rfl, hF9⟩
    (conv => whnf)
    exact ⟨rfl, hF9⟩
  have hl2 : tx.length ≤ 1000 := by
    have h : (!decide ((tx.length : Int) > 1000)) = true := h
    simp at h
    omega
  clear h
  ((conv => whnf); repeat (first | (apply load_at; (conv => lhs; whnf); (with_reducible assumption); rfl; (conv => whnf)) | (apply loads_at; (conv => lhs; whnf); (with_reducible assumption); rfl; (conv => whnf)) | (refine ⟨⟨by omega, by omega⟩, ?_⟩; (conv => whnf))))
  refine cond_split (fun h => ?_) (fun h => ?_)
  case refine_2 =>
    ((conv => whnf); repeat (first | (apply load_at; (conv => lhs; whnf); (with_reducible assumption); rfl; (conv => whnf)) | (apply loads_at; (conv => lhs; whnf); (with_reducible assumption); rfl; (conv => whnf)) | (refine ⟨⟨by omega, by omega⟩, ?_⟩; (conv => whnf))))
    refine call_of (aw _ hE2) ?_
    rintro v F9 ⟨rfl, hF9⟩
    (conv => whnf)
    exact ⟨rfl, hF9⟩
  have hl3 : ns'.length ≤ 300 := by
    have h : (!decide ((ns'.length : Int) > 300)) = true := h
    simp at h
    omega
  clear h
  ((conv => whnf); repeat (first | (apply load_at; (conv => lhs; whnf); (with_reducible assumption); rfl; (conv => whnf)) | (apply loads_at; (conv => lhs; whnf); (with_reducible assumption); rfl; (conv => whnf)) | (refine ⟨⟨by omega, by omega⟩, ?_⟩; (conv => whnf))))
  refine cond_split (fun h => ?_) (fun h => ?_)
  · ((conv => whnf); repeat (first | (apply load_at; (conv => lhs; whnf); (with_reducible assumption); rfl; (conv => whnf)) | (apply loads_at; (conv => lhs; whnf); (with_reducible assumption); rfl; (conv => whnf)) | (refine ⟨⟨by omega, by omega⟩, ?_⟩; (conv => whnf))))
    refine call_of (aw _ hE2) ?_
    rintro v F9 ⟨rfl, hF9⟩
    (conv => whnf)
    exact ⟨rfl, hF9⟩
  clear h
  have c1 := fun G hg => Go.Proofs.Ytkahpaipciooiac.Al.encode k ns tx A c G hg (by omega) hc (by omega)
  have c2 := fun G hg => Go.Proofs.Ytkahpaipciooiac.Al.rencode k ns tx A c G hg (by omega) (by omega)
  have c3 := fun en A1 A2 d1 d2 G g1 g2 => bytesEqual en en A1 A2 d1 d2 G g1 g2
  simp only [beq_self_eq_true] at c3
  have c4 := fun G g1 g2 => same k k' ns ns' tx tx' A B c c' G g1 g2 (by omega) (by omega)
  have c5 := fun G g1 g2 => rsame k k' ns ns' tx tx' A B c c' G g1 g2 (by omega) (by omega)
  have c6 := done k (.slice A ns.length c) tx
  have c7 := rdone k (.slice A ns.length c) tx
  generalize encR ⟨k, ns, tx⟩ = en at c1 c2
  generalize sameR ⟨k, ns, tx⟩ ⟨k', ns', tx'⟩ = sb at c4 c5
  generalize doneR k = db at c6 c7
  (conv => whnf)
  refine draw_tree tab_ok (by kernel_rfl) [0, 2, 6, 7, 9, 10, 15, 17] (DT.row [0, 2, 1, 3, 4, 5, 6, 7, 9, 10, 8, 11, 12, 13, 14, 15, 17, 16, 18, 19, 20, 21, 22, 23, 24] .nil) (by kernel_rfl) ?_
  ((conv => whnf); repeat (first | (apply load_at; (conv => lhs; whnf); (with_reducible assumption); rfl; (conv => whnf)) | (apply loads_at; (conv => lhs; whnf); (with_reducible assumption); rfl; (conv => whnf)) | (refine ⟨⟨by omega, by omega⟩, ?_⟩; (conv => whnf))))
  refine call_of (c1 F2 (hr.mono hE2)) ?_
  rintro v F3 hM3
  obtain ⟨A3, d3, rfl, _, hR3⟩ := hM3.own.row
  have hE3 := hM3.ext
  refine ⟨hE3, ?_⟩
  ((conv => whnf); repeat (first | (apply load_at; (conv => lhs; whnf); (with_reducible assumption); rfl; (conv => whnf)) | (apply loads_at; (conv => lhs; whnf); (with_reducible assumption); rfl; (conv => whnf)) | (refine ⟨⟨by omega, by omega⟩, ?_⟩; (conv => whnf))))
  refine call_of (c2 F3 ((hr.mono hE2).mono hE3)) ?_
  rintro v F4 hM4
  obtain ⟨A4, d4, rfl, _, hR4⟩ := hM4.own.row
  have hE4 := hE3.trans hM4.ext
  refine ⟨hE4, ?_⟩
  ((conv => whnf); repeat (first | (apply load_at; (conv => lhs; whnf); (with_reducible assumption); rfl; (conv => whnf)) | (apply loads_at; (conv => lhs; whnf); (with_reducible assumption); rfl; (conv => whnf)) | (refine ⟨⟨by omega, by omega⟩, ?_⟩; (conv => whnf))))
  refine call_of (c3 en A3 A4 d3 d4 F4 (hR3.mono hM4.ext) hR4) ?_
  rintro v F4 ⟨rfl, rfl⟩
  refine ⟨hE4, ?_⟩
  have hX4 := hE2.trans hE4
  ((conv => whnf); repeat (first | (apply load_at; (conv => lhs; whnf); (with_reducible assumption); rfl; (conv => whnf)) | (apply loads_at; (conv => lhs; whnf); (with_reducible assumption); rfl; (conv => whnf)) | (refine ⟨⟨by omega, by omega⟩, ?_⟩; (conv => whnf))))
  refine call_of (c4 F4 (hr.mono hX4) (hs.mono hX4)) ?_
  rintro v F5 ⟨rfl, hE5⟩
  replace hE5 := hE4.trans hE5
  refine ⟨hE5, ?_⟩
  have hX5 := hE2.trans hE5
  ((conv => whnf); repeat (first | (apply load_at; (conv => lhs; whnf); (with_reducible assumption); rfl; (conv => whnf)) | (apply loads_at; (conv => lhs; whnf); (with_reducible assumption); rfl; (conv => whnf)) | (refine ⟨⟨by omega, by omega⟩, ?_⟩; (conv => whnf))))
  refine call_of (c5 F5 (hr.mono hX5) (hs.mono hX5)) ?_
  rintro v F6 ⟨rfl, hE6⟩
  replace hE6 := hE5.trans hE6
  refine ⟨hE6, ?_⟩
  ((conv => whnf); repeat (first | (apply load_at; (conv => lhs; whnf); (with_reducible assumption); rfl; (conv => whnf)) | (apply loads_at; (conv => lhs; whnf); (with_reducible assumption); rfl; (conv => whnf)) | (refine ⟨⟨by omega, by omega⟩, ?_⟩; (conv => whnf))))
  (refine cond_split (fun _ => ?_) (fun h_ => absurd h_ (by simp)); (conv => whnf))
  ((conv => whnf); repeat (first | (apply load_at; (conv => lhs; whnf); (with_reducible assumption); rfl; (conv => whnf)) | (apply loads_at; (conv => lhs; whnf); (with_reducible assumption); rfl; (conv => whnf)) | (refine ⟨⟨by omega, by omega⟩, ?_⟩; (conv => whnf))))
  refine call_of (c6 F6) ?_
  rintro v F7 ⟨rfl, hE7⟩
  replace hE7 := hE6.trans hE7
  refine ⟨hE7, ?_⟩
  ((conv => whnf); repeat (first | (apply load_at; (conv => lhs; whnf); (with_reducible assumption); rfl; (conv => whnf)) | (apply loads_at; (conv => lhs; whnf); (with_reducible assumption); rfl; (conv => whnf)) | (refine ⟨⟨by omega, by omega⟩, ?_⟩; (conv => whnf))))
  refine call_of (c7 F7) ?_
  rintro v F8 ⟨rfl, hE8⟩
  replace hE8 := hE7.trans hE8
  refine ⟨hE8, ?_⟩
  ((conv => whnf); repeat (first | (apply load_at; (conv => lhs; whnf); (with_reducible assumption); rfl; (conv => whnf)) | (apply loads_at; (conv => lhs; whnf); (with_reducible assumption); rfl; (conv => whnf)) | (refine ⟨⟨by omega, by omega⟩, ?_⟩; (conv => whnf))))
  (refine cond_split (fun _ => ?_) (fun h_ => absurd h_ (by simp)); (conv => whnf))
  ((conv => whnf); repeat (first | (apply load_at; (conv => lhs; whnf); (with_reducible assumption); rfl; (conv => whnf)) | (apply loads_at; (conv => lhs; whnf); (with_reducible assumption); rfl; (conv => whnf)) | (refine ⟨⟨by omega, by omega⟩, ?_⟩; (conv => whnf))))
  refine call_of (awake F8) ?_
  rintro v F9 ⟨rfl, hF9⟩
  refine ⟨hE8.trans hF9, ?_⟩
  (conv => whnf)
  exact ⟨rfl, hE2.trans (hE8.trans hF9)⟩
end Go.Proofs.Ytkahpaipciooiac.AlReplyEncodes

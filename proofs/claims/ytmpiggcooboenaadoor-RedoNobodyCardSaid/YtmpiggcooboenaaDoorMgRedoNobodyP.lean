/- The law RedoNobody holds of the program: proved over what is known of memory, each function by its contract. -/
import Derived.Test.YtmpiggcooboenaaDoorMgRedoNobodyLaw
import Derived.Test.YtmpiggcooboenaaDoorMgRedo1
import Derived.Test.YtmpiggcooboenaaDoorMgRedo2
import Derived.Test.YtmpiggcooboenaaDoorMgRedo3
import Derived.Test.YtmpiggcooboenaaDoorMgRedo4
import Derived.Test.YtmpiggcooboenaaDoorMgRedo5
namespace Go.Proofs.YtmpiggcooboenaaDoor.AlRedoNobody
open Go Go.Al Go.Proofs Go.RowKit Go.Proofs.YtmpiggcooboenaaDoor.Al
set_option maxHeartbeats 8000000
set_option maxRecDepth 100000
set_option linter.unusedVariables false
set_option linter.unusedSimpArgs false
theorem loadNo {F : Heap} {v : Value} (h : LgNo F v) (i : Int) : FnK Tryd.prog 17 #[v, .int .i64 i] F (fun v F' => v = .tuple #[.slice none 0 0, .int .i64 2] ∧ F' = F) := by
  have h1 := lgReadyNo h
  (refine fn_walk tab_ok Tryd.func17 rfl rfl rfl rfl ?_; (conv => whnf))
  refine call_of h1 ?_
  rintro v F ⟨rfl, rfl⟩
  ((conv => whnf); repeat (first | (apply load_at; (conv => lhs; whnf); (with_reducible assumption); rfl; (conv => whnf)) | (apply load_at; (conv => lhs; rw [add_plain, add_plain]); (with_reducible assumption); rfl; (conv => whnf)) | (apply loads_at; (conv => lhs; whnf); (with_reducible assumption); rfl; (conv => whnf)) | (refine ⟨⟨by omega, by omega⟩, ?_⟩; (conv => whnf))))
  exact ⟨rfl, rfl⟩
theorem commitNo {F : Heap} {v : Value} (h : LgNo F v) : FnK Tryd.prog 19 #[v, .slice none 0 0] F (fun v F' => v = .int .i64 2 ∧ F' = F) := by
  have h1 := lgReadyNo h
  (refine fn_walk tab_ok Tryd.func19 rfl rfl rfl rfl ?_; (conv => whnf))
  refine call_of h1 ?_
  rintro v F ⟨rfl, rfl⟩
  ((conv => whnf); repeat (first | (apply load_at; (conv => lhs; whnf); (with_reducible assumption); rfl; (conv => whnf)) | (apply load_at; (conv => lhs; rw [add_plain, add_plain]); (with_reducible assumption); rfl; (conv => whnf)) | (apply loads_at; (conv => lhs; whnf); (with_reducible assumption); rfl; (conv => whnf)) | (refine ⟨⟨by omega, by omega⟩, ?_⟩; (conv => whnf))))
  exact ⟨rfl, rfl⟩
theorem pagesNo {F : Heap} {v : Value} (h : LgNo F v) : FnK Tryd.prog 20 #[v] F (fun v F' => v = .int .i64 0 ∧ F' = F) := by
  have h1 := lgReadyNo h
  (refine fn_walk tab_ok Tryd.func20 rfl rfl rfl rfl ?_; (conv => whnf))
  refine call_of h1 ?_
  rintro v F ⟨rfl, rfl⟩
  ((conv => whnf); repeat (first | (apply load_at; (conv => lhs; whnf); (with_reducible assumption); rfl; (conv => whnf)) | (apply load_at; (conv => lhs; rw [add_plain, add_plain]); (with_reducible assumption); rfl; (conv => whnf)) | (apply loads_at; (conv => lhs; whnf); (with_reducible assumption); rfl; (conv => whnf)) | (refine ⟨⟨by omega, by omega⟩, ?_⟩; (conv => whnf))))
  exact ⟨rfl, rfl⟩
theorem seqNo {F : Heap} {v : Value} (h : LgNo F v) : FnK Tryd.prog 21 #[v] F (fun v F' => v = .int .i64 0 ∧ F' = F) := by
  have h1 := lgReadyNo h
  (refine fn_walk tab_ok Tryd.func21 rfl rfl rfl rfl ?_; (conv => whnf))
  refine call_of h1 ?_
  rintro v F ⟨rfl, rfl⟩
  ((conv => whnf); repeat (first | (apply load_at; (conv => lhs; whnf); (with_reducible assumption); rfl; (conv => whnf)) | (apply load_at; (conv => lhs; rw [add_plain, add_plain]); (with_reducible assumption); rfl; (conv => whnf)) | (apply loads_at; (conv => lhs; whnf); (with_reducible assumption); rfl; (conv => whnf)) | (refine ⟨⟨by omega, by omega⟩, ?_⟩; (conv => whnf))))
  exact ⟨rfl, rfl⟩
theorem diskNo (F : Heap) : NR F (.pointer none) := .inl rfl
theorem rdNo (F : Heap) : FnK Tryd.prog 62 #[.pointer none] F (fun v F' => v = .tuple #[.agg #[.int .i64 0, .int .i64 0], .int .i64 2] ∧ Ext F F') := by
  (refine fn_walk tab_ok Tryd.func62 rfl rfl rfl rfl ?_; (conv => whnf))
  refine new_step (.cells #[.int .i64 0, .int .i64 0] 108) rfl fun t h0_t => ?_
  have hE_t := Ext.new h0_t (.cells #[.int .i64 0, .int .i64 0] 108)
  have hB_t := Heap.put_same F t (.cells #[.int .i64 0, .int .i64 0] 108)
  generalize F.put t _ = F1 at hE_t hB_t ⊢
  ((conv => whnf); repeat (first | (apply load_at; (conv => lhs; whnf); (with_reducible assumption); rfl; (conv => whnf)) | (apply load_at; (conv => lhs; rw [add_plain, add_plain]); (with_reducible assumption); rfl; (conv => whnf)) | (apply loads_at; (conv => lhs; whnf); (with_reducible assumption); rfl; (conv => whnf)) | (refine ⟨⟨by omega, by omega⟩, ?_⟩; (conv => whnf))))
  refine call_of (markI F1) ?_
  rintro v F1 ⟨rfl, rfl⟩
  ((conv => whnf); repeat (first | (apply load_at; (conv => lhs; whnf); (with_reducible assumption); rfl; (conv => whnf)) | (apply load_at; (conv => lhs; rw [add_plain, add_plain]); (with_reducible assumption); rfl; (conv => whnf)) | (apply loads_at; (conv => lhs; whnf); (with_reducible assumption); rfl; (conv => whnf)) | (refine ⟨⟨by omega, by omega⟩, ?_⟩; (conv => whnf))))
  refine call_of (readNo (diskNo F1) 0) ?_
  rintro v F1 ⟨rfl, rfl⟩
  ((conv => whnf); repeat (first | (apply load_at; (conv => lhs; whnf); (with_reducible assumption); rfl; (conv => whnf)) | (apply load_at; (conv => lhs; rw [add_plain, add_plain]); (with_reducible assumption); rfl; (conv => whnf)) | (apply loads_at; (conv => lhs; whnf); (with_reducible assumption); rfl; (conv => whnf)) | (refine ⟨⟨by omega, by omega⟩, ?_⟩; (conv => whnf))))
  refine store_step t 0 _ #[.int .i64 0, .int .i64 0] rfl hB_t rfl rfl (.inl (Nat.le_refl 0)) (two_ints _ _) ?_
  have hB3 := Heap.put_same F1 t (.cells #[.int .i64 0, .int .i64 0] 108)
  have hE3 : Ext F (F1.put t (.cells #[.int .i64 0, .int .i64 0] 108)) := hE_t.put h0_t _
  generalize F1.put t _ = F3 at hB3 hE3 ⊢
  ((conv => whnf); repeat (first | (apply load_at; (conv => lhs; whnf); (with_reducible assumption); rfl; (conv => whnf)) | (apply load_at; (conv => lhs; rw [add_plain, add_plain]); (with_reducible assumption); rfl; (conv => whnf)) | (apply loads_at; (conv => lhs; whnf); (with_reducible assumption); rfl; (conv => whnf)) | (refine ⟨⟨by omega, by omega⟩, ?_⟩; (conv => whnf))))
  refine res_cells tab_ok rfl rfl hB3 rfl ?_
  ((conv => whnf); repeat (first | (apply load_at; (conv => lhs; whnf); (with_reducible assumption); rfl; (conv => whnf)) | (apply load_at; (conv => lhs; rw [add_plain, add_plain]); (with_reducible assumption); rfl; (conv => whnf)) | (apply loads_at; (conv => lhs; whnf); (with_reducible assumption); rfl; (conv => whnf)) | (refine ⟨⟨by omega, by omega⟩, ?_⟩; (conv => whnf))))
  exact ⟨rfl, hE3⟩
theorem openNo (F : Heap) : FnK Tryd.prog 18 #[.pointer none] F (fun v F' => v = .tuple #[.pointer none, .int .i64 2] ∧ Ext F F') := by
  (refine fn_walk tab_ok Tryd.func18 rfl rfl rfl rfl ?_; (conv => whnf))
  refine call_of (rdNo F) ?_
  rintro v F1 ⟨rfl, hE1⟩
  ((conv => whnf); repeat (first | (apply load_at; (conv => lhs; whnf); (with_reducible assumption); rfl; (conv => whnf)) | (apply load_at; (conv => lhs; rw [add_plain, add_plain]); (with_reducible assumption); rfl; (conv => whnf)) | (apply loads_at; (conv => lhs; whnf); (with_reducible assumption); rfl; (conv => whnf)) | (refine ⟨⟨by omega, by omega⟩, ?_⟩; (conv => whnf))))
  refine new_step (.cells #[.int .i64 0, .int .i64 0] 108) rfl fun t h0_t => ?_
  have hE_t := Ext.new h0_t (.cells #[.int .i64 0, .int .i64 0] 108)
  have hB_t := Heap.put_same F1 t (.cells #[.int .i64 0, .int .i64 0] 108)
  generalize F1.put t _ = F2 at hE_t hB_t ⊢
  ((conv => whnf); repeat (first | (apply load_at; (conv => lhs; whnf); (with_reducible assumption); rfl; (conv => whnf)) | (apply load_at; (conv => lhs; rw [add_plain, add_plain]); (with_reducible assumption); rfl; (conv => whnf)) | (apply loads_at; (conv => lhs; whnf); (with_reducible assumption); rfl; (conv => whnf)) | (refine ⟨⟨by omega, by omega⟩, ?_⟩; (conv => whnf))))
  refine store_step t 0 _ #[.int .i64 0, .int .i64 0] rfl hB_t rfl rfl (.inl (Nat.le_refl 0)) (two_ints _ _) ?_
  have hE3 : Ext F1 (F2.put t (.cells #[.int .i64 0, .int .i64 0] 108)) := hE_t.put h0_t _
  generalize F2.put t _ = F3 at hE3 ⊢
  ((conv => whnf); repeat (first | (apply load_at; (conv => lhs; whnf); (with_reducible assumption); rfl; (conv => whnf)) | (apply load_at; (conv => lhs; rw [add_plain, add_plain]); (with_reducible assumption); rfl; (conv => whnf)) | (apply loads_at; (conv => lhs; whnf); (with_reducible assumption); rfl; (conv => whnf)) | (refine ⟨⟨by omega, by omega⟩, ?_⟩; (conv => whnf))))
  exact ⟨rfl, hE1.trans hE3⟩
theorem writeNone {F : Heap} (p : PcR) (g : Nat) (hg : F g = some (.cells (rowS pcC [p]).toArray 149)) : FnK Tryd.prog 64 #[.pointer none, .slice (some ⟨g, 0, none⟩) 1 1] F (fun v F' => v = .int .i64 2 ∧ Ext F F') := by
  have hL : ∀ K : Value → Prop, K (.agg (pcC p).toArray) → LoadsK F (Addr.add ⟨g, 0, none⟩ (Int.toNat ((0 : Nat) : Int) * 2)) 2 K := fun K hk => rowS_loads pcC_len (by decide) (xs := [p]) (by have := row_blk hg; rw [List.toList_toArray] at this; exact this) rfl hk
  obtain ⟨pat, pl, pA, pc⟩ := p
  (refine fn_walk tab_ok Tryd.func64 rfl rfl rfl rfl ?_; (conv => whnf))
  refine loop_slots [0, 8, 9, 10] (fun k vs F' => vs = [.pointer none, .slice (some ⟨g, 0, none⟩) 1 1, .int .i64 1, .int .i64 0] ∧ F' = F) 0 ⟨rfl, rfl⟩ ?_
  rintro k vs F ρ ⟨rfl, rfl⟩
  ((conv => whnf); repeat (first | (apply load_at; (conv => lhs; whnf); (with_reducible assumption); rfl; (conv => whnf)) | (apply load_at; (conv => lhs; rw [add_plain, add_plain]); (with_reducible assumption); rfl; (conv => whnf)) | (apply loads_at; (conv => lhs; whnf); (with_reducible assumption); rfl; (conv => whnf)) | (refine ⟨⟨by omega, by omega⟩, ?_⟩; (conv => whnf))))
  refine new_step (.cells #[.int .i64 0, .slice none 0 0] 149) rfl fun u h0_u => ?_
  have hE_u := Ext.new h0_u (.cells #[.int .i64 0, .slice none 0 0] 149)
  have hB_u := Heap.put_same F u (.cells #[.int .i64 0, .slice none 0 0] 149)
  generalize F.put u _ = F2 at hE_u hB_u ⊢
  ((conv => whnf); repeat (first | (apply load_at; (conv => lhs; whnf); (with_reducible assumption); rfl; (conv => whnf)) | (apply load_at; (conv => lhs; rw [add_plain, add_plain]); (with_reducible assumption); rfl; (conv => whnf)) | (apply loads_at; (conv => lhs; whnf); (with_reducible assumption); rfl; (conv => whnf)) | (refine ⟨⟨by omega, by omega⟩, ?_⟩; (conv => whnf))))
  refine store_step u 0 _ (pcC ⟨pat, pl, pA, pc⟩).toArray rfl hB_u rfl rfl (.inl (Nat.le_refl 0)) (pc_one ⟨pat, pl, pA, pc⟩) ?_
  have hB := Heap.put_same F2 u (pcO ⟨pat, pl, pA, pc⟩)
  have hE3 : Ext F (F2.put u (pcO ⟨pat, pl, pA, pc⟩)) := hE_u.put h0_u _
  generalize F2.put u _ = F3 at hB hE3 ⊢
  ((conv => whnf); repeat (first | (apply load_at; (conv => lhs; whnf); (with_reducible assumption); rfl; (conv => whnf)) | (apply load_at; (conv => lhs; rw [add_plain, add_plain]); (with_reducible assumption); rfl; (conv => whnf)) | (apply loads_at; (conv => lhs; whnf); (with_reducible assumption); rfl; (conv => whnf)) | (refine ⟨⟨by omega, by omega⟩, ?_⟩; (conv => whnf))))
  refine call_of (writeNo (diskNo F3) pat (.slice pA pl.length pc)) ?_
  rintro v F3 ⟨rfl, rfl⟩
  ((conv => whnf); repeat (first | (apply load_at; (conv => lhs; whnf); (with_reducible assumption); rfl; (conv => whnf)) | (apply load_at; (conv => lhs; rw [add_plain, add_plain]); (with_reducible assumption); rfl; (conv => whnf)) | (apply loads_at; (conv => lhs; whnf); (with_reducible assumption); rfl; (conv => whnf)) | (refine ⟨⟨by omega, by omega⟩, ?_⟩; (conv => whnf))))
  exact ⟨rfl, hE3⟩
theorem formatNo (F : Heap) (hN : NibAt F) : FnK Tryd.prog 22 #[.pointer none] F (fun v F' => v = .int .i64 2 ∧ Ext F F') := by
  have h1 := fun F hN => notePiece 0 1 F hN
  rw [show packE 0 1 (List.replicate 240 0) = 0 by unfold packE; rw [if_pos (note_pack (by decide))]] at h1
  have hk : FnK Tryd.prog 67 #[.pointer none, .agg #[.int .i64 0, .int .i64 1]] F (fun v F' => v = .int .i64 2 ∧ Ext F F') := by
    generalize noteB 0 1 = nb at h1
    (refine fn_walk tab_ok Tryd.func67 rfl rfl rfl rfl ?_; (conv => whnf))
    refine new_step (.cells #[.int .i64 0, .int .i64 1] 108) rfl fun t h0_t => ?_
    have hE_t := Ext.new h0_t (.cells #[.int .i64 0, .int .i64 1] 108)
    have hB_t := Heap.put_same F t (.cells #[.int .i64 0, .int .i64 1] 108)
    generalize F.put t _ = F1 at hE_t hB_t ⊢
    ((conv => whnf); repeat (first | (apply load_at; (conv => lhs; whnf); (with_reducible assumption); rfl; (conv => whnf)) | (apply load_at; (conv => lhs; rw [add_plain, add_plain]); (with_reducible assumption); rfl; (conv => whnf)) | (apply loads_at; (conv => lhs; whnf); (with_reducible assumption); rfl; (conv => whnf)) | (refine ⟨⟨by omega, by omega⟩, ?_⟩; (conv => whnf))))
    refine call_of (h1 F1 (hN.mono hE_t)) ?_
    rintro v F2 ⟨⟨A, c, rfl, hc, hr, hf⟩, hE2⟩
    ((conv => whnf); repeat (first | (apply load_at; (conv => lhs; whnf); (with_reducible assumption); rfl; (conv => whnf)) | (apply load_at; (conv => lhs; rw [add_plain, add_plain]); (with_reducible assumption); rfl; (conv => whnf)) | (apply loads_at; (conv => lhs; whnf); (with_reducible assumption); rfl; (conv => whnf)) | (refine ⟨⟨by omega, by omega⟩, ?_⟩; (conv => whnf))))
    refine new_step (.cells #[.int .i64 0, .slice none 0 0] 149) rfl fun u h0_u => ?_
    have hE_u := Ext.new h0_u (.cells #[.int .i64 0, .slice none 0 0] 149)
    have hB_u := Heap.put_same F2 u (.cells #[.int .i64 0, .slice none 0 0] 149)
    generalize F2.put u _ = F3 at hE_u hB_u ⊢
    ((conv => whnf); repeat (first | (apply load_at; (conv => lhs; whnf); (with_reducible assumption); rfl; (conv => whnf)) | (apply load_at; (conv => lhs; rw [add_plain, add_plain]); (with_reducible assumption); rfl; (conv => whnf)) | (apply loads_at; (conv => lhs; whnf); (with_reducible assumption); rfl; (conv => whnf)) | (refine ⟨⟨by omega, by omega⟩, ?_⟩; (conv => whnf))))
    refine store_step u 0 _ (pcC ⟨0, nb, A, c⟩).toArray rfl hB_u rfl rfl (.inl (Nat.le_refl 0)) (pc_one ⟨0, nb, A, c⟩) ?_
    have hB4 := Heap.put_same F3 u (pcO ⟨0, nb, A, c⟩)
    have hE4 : Ext F2 (F3.put u (pcO ⟨0, nb, A, c⟩)) := hE_u.put h0_u _
    generalize F3.put u _ = F4 at hB4 hE4 ⊢
    refine short [0, 5, 11] [.pointer none, .pointer (some ⟨u, 0, none⟩), .int .i64 0] rfl fun ρ => ?_
    ((conv => whnf); repeat (first | (apply load_at; (conv => lhs; whnf); (with_reducible assumption); rfl; (conv => whnf)) | (apply load_at; (conv => lhs; rw [add_plain, add_plain]); (with_reducible assumption); rfl; (conv => whnf)) | (apply loads_at; (conv => lhs; whnf); (with_reducible assumption); rfl; (conv => whnf)) | (refine ⟨⟨by omega, by omega⟩, ?_⟩; (conv => whnf))))
    refine new_step (.cells (rowS pcC [⟨0, nb, A, c⟩]).toArray 149) rfl fun g h0_g => ?_
    have hE_g := Ext.new h0_g (.cells (rowS pcC [⟨0, nb, A, c⟩]).toArray 149)
    have hB_g := Heap.put_same F4 g (.cells (rowS pcC [⟨0, nb, A, c⟩]).toArray 149)
    generalize F4.put g _ = F5 at hE_g hB_g ⊢
    ((conv => whnf); repeat (first | (apply load_at; (conv => lhs; whnf); (with_reducible assumption); rfl; (conv => whnf)) | (apply load_at; (conv => lhs; rw [add_plain, add_plain]); (with_reducible assumption); rfl; (conv => whnf)) | (apply loads_at; (conv => lhs; whnf); (with_reducible assumption); rfl; (conv => whnf)) | (refine ⟨⟨by omega, by omega⟩, ?_⟩; (conv => whnf))))
    refine call_of (writeNone ⟨0, nb, A, c⟩ g hB_g) ?_
    rintro v F6 ⟨rfl, hE6⟩
    ((conv => whnf); repeat (first | (apply load_at; (conv => lhs; whnf); (with_reducible assumption); rfl; (conv => whnf)) | (apply load_at; (conv => lhs; rw [add_plain, add_plain]); (with_reducible assumption); rfl; (conv => whnf)) | (apply loads_at; (conv => lhs; whnf); (with_reducible assumption); rfl; (conv => whnf)) | (refine ⟨⟨by omega, by omega⟩, ?_⟩; (conv => whnf))))
    exact ⟨rfl, hE_t.trans (hE2.trans (hE4.trans (hE_g.trans hE6)))⟩
  (refine fn_walk tab_ok Tryd.func22 rfl rfl rfl rfl ?_; (conv => whnf))
  refine call_of hk ?_
  rintro v F1 ⟨rfl, hE⟩
  ((conv => whnf); repeat (first | (apply load_at; (conv => lhs; whnf); (with_reducible assumption); rfl; (conv => whnf)) | (apply load_at; (conv => lhs; rw [add_plain, add_plain]); (with_reducible assumption); rfl; (conv => whnf)) | (apply loads_at; (conv => lhs; whnf); (with_reducible assumption); rfl; (conv => whnf)) | (refine ⟨⟨by omega, by omega⟩, ?_⟩; (conv => whnf))))
  exact ⟨rfl, hE⟩
theorem law : LawK := by
  intro F hN n wn
  (refine fn_walk tab_ok Tryd.func5 rfl rfl rfl rfl ?_; (conv => whnf))
  refine new_step (.cells #[.pointer none, .int .i64 0] 48) rfl fun z h0_z => ?_
  have hE_z := Ext.new h0_z (.cells #[.pointer none, .int .i64 0] 48)
  have hB_z := Heap.put_same F z (.cells #[.pointer none, .int .i64 0] 48)
  generalize F.put z _ = F1 at hE_z hB_z ⊢
  have hz : LgNo F1 (.pointer (some ⟨z, 0, none⟩)) := .inr ⟨z, 0, rfl, hB_z⟩
  have hz' : ∀ G, Ext F1 G → LgNo G (.pointer (some ⟨z, 0, none⟩)) := fun G h => .inr ⟨z, 0, rfl, h _ _ hB_z⟩
  ((conv => whnf); repeat (first | (apply load_at; (conv => lhs; whnf); (with_reducible assumption); rfl; (conv => whnf)) | (apply load_at; (conv => lhs; rw [add_plain, add_plain]); (with_reducible assumption); rfl; (conv => whnf)) | (apply loads_at; (conv => lhs; whnf); (with_reducible assumption); rfl; (conv => whnf)) | (refine ⟨⟨by omega, by omega⟩, ?_⟩; (conv => whnf))))
  refine call_of (loadNo (.inl rfl) n) ?_
  rintro v F1 ⟨rfl, rfl⟩
  ((conv => whnf); repeat (first | (apply load_at; (conv => lhs; whnf); (with_reducible assumption); rfl; (conv => whnf)) | (apply load_at; (conv => lhs; rw [add_plain, add_plain]); (with_reducible assumption); rfl; (conv => whnf)) | (apply loads_at; (conv => lhs; whnf); (with_reducible assumption); rfl; (conv => whnf)) | (refine ⟨⟨by omega, by omega⟩, ?_⟩; (conv => whnf))))
  refine call_of (loadNo hz n) ?_
  rintro v F1 ⟨rfl, rfl⟩
  ((conv => whnf); repeat (first | (apply load_at; (conv => lhs; whnf); (with_reducible assumption); rfl; (conv => whnf)) | (apply load_at; (conv => lhs; rw [add_plain, add_plain]); (with_reducible assumption); rfl; (conv => whnf)) | (apply loads_at; (conv => lhs; whnf); (with_reducible assumption); rfl; (conv => whnf)) | (refine ⟨⟨by omega, by omega⟩, ?_⟩; (conv => whnf))))
  refine call_of (openNo F1) ?_
  rintro v F2 ⟨rfl, hE2⟩
  refine short [3, 4, 6, 8, 23] [.pointer none, .pointer (some ⟨z, 0, none⟩), .int .i64 2, .int .i64 2, .tuple #[.pointer none, .int .i64 2]] rfl fun ρ => ?_
  ((conv => whnf); repeat (first | (apply load_at; (conv => lhs; whnf); (with_reducible assumption); rfl; (conv => whnf)) | (apply load_at; (conv => lhs; rw [add_plain, add_plain]); (with_reducible assumption); rfl; (conv => whnf)) | (apply loads_at; (conv => lhs; whnf); (with_reducible assumption); rfl; (conv => whnf)) | (refine ⟨⟨by omega, by omega⟩, ?_⟩; (conv => whnf))))
  refine call_of (commitNo (.inl rfl)) ?_
  rintro v F2 ⟨rfl, rfl⟩
  refine short [3, 4, 9, 10, 32, 34] [.pointer none, .pointer (some ⟨z, 0, none⟩), .pointer none, .int .i64 2, .bool true, .int .i64 2] rfl fun ρ => ?_
  ((conv => whnf); repeat (first | (apply load_at; (conv => lhs; whnf); (with_reducible assumption); rfl; (conv => whnf)) | (apply load_at; (conv => lhs; rw [add_plain, add_plain]); (with_reducible assumption); rfl; (conv => whnf)) | (apply loads_at; (conv => lhs; whnf); (with_reducible assumption); rfl; (conv => whnf)) | (refine ⟨⟨by omega, by omega⟩, ?_⟩; (conv => whnf))))
  refine call_of (commitNo (hz' F2 hE2)) ?_
  rintro v F2 ⟨rfl, rfl⟩
  refine short [3, 4, 9, 10, 37, 38] [.pointer none, .pointer (some ⟨z, 0, none⟩), .pointer none, .int .i64 2, .bool true, .int .i64 2] rfl fun ρ => ?_
  ((conv => whnf); repeat (first | (apply load_at; (conv => lhs; whnf); (with_reducible assumption); rfl; (conv => whnf)) | (apply load_at; (conv => lhs; rw [add_plain, add_plain]); (with_reducible assumption); rfl; (conv => whnf)) | (apply loads_at; (conv => lhs; whnf); (with_reducible assumption); rfl; (conv => whnf)) | (refine ⟨⟨by omega, by omega⟩, ?_⟩; (conv => whnf))))
  refine call_of (pagesNo (.inl rfl)) ?_
  rintro v F2 ⟨rfl, rfl⟩
  refine short [4, 9, 10, 41, 43] [.pointer (some ⟨z, 0, none⟩), .pointer none, .int .i64 2, .bool true, .int .i64 0] rfl fun ρ => ?_
  ((conv => whnf); repeat (first | (apply load_at; (conv => lhs; whnf); (with_reducible assumption); rfl; (conv => whnf)) | (apply load_at; (conv => lhs; rw [add_plain, add_plain]); (with_reducible assumption); rfl; (conv => whnf)) | (apply loads_at; (conv => lhs; whnf); (with_reducible assumption); rfl; (conv => whnf)) | (refine ⟨⟨by omega, by omega⟩, ?_⟩; (conv => whnf))))
  refine call_of (seqNo (hz' F2 hE2)) ?_
  rintro v F2 ⟨rfl, rfl⟩
  refine short [9, 10, 46, 47] [.pointer none, .int .i64 2, .bool true, .int .i64 0] rfl fun ρ => ?_
  ((conv => whnf); repeat (first | (apply load_at; (conv => lhs; whnf); (with_reducible assumption); rfl; (conv => whnf)) | (apply load_at; (conv => lhs; rw [add_plain, add_plain]); (with_reducible assumption); rfl; (conv => whnf)) | (apply loads_at; (conv => lhs; whnf); (with_reducible assumption); rfl; (conv => whnf)) | (refine ⟨⟨by omega, by omega⟩, ?_⟩; (conv => whnf))))
  have hE02 := hE_z.trans hE2
  refine call_of (formatNo F2 (hN.mono hE02)) ?_
  rintro v F3 ⟨rfl, hE3⟩
  refine short [58, 59] [.bool true, .int .i64 2] rfl fun ρ => ?_
  ((conv => whnf); repeat (first | (apply load_at; (conv => lhs; whnf); (with_reducible assumption); rfl; (conv => whnf)) | (apply load_at; (conv => lhs; rw [add_plain, add_plain]); (with_reducible assumption); rfl; (conv => whnf)) | (apply loads_at; (conv => lhs; whnf); (with_reducible assumption); rfl; (conv => whnf)) | (refine ⟨⟨by omega, by omega⟩, ?_⟩; (conv => whnf))))
  refine call_of (awake6 F3 (hN.mono (hE02.trans hE3))) ?_
  rintro v F4 ⟨rfl, hE4⟩
  ((conv => whnf); repeat (first | (apply load_at; (conv => lhs; whnf); (with_reducible assumption); rfl; (conv => whnf)) | (apply load_at; (conv => lhs; rw [add_plain, add_plain]); (with_reducible assumption); rfl; (conv => whnf)) | (apply loads_at; (conv => lhs; whnf); (with_reducible assumption); rfl; (conv => whnf)) | (refine ⟨⟨by omega, by omega⟩, ?_⟩; (conv => whnf))))
  exact ⟨rfl, (hE02.trans hE3).trans hE4⟩
end Go.Proofs.YtmpiggcooboenaaDoor.AlRedoNobody

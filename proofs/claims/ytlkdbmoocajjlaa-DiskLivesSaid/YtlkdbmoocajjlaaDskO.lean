/- Disks: exchequerlaw03.do, over what is known of memory. -/
import Derived.Test.YtlkdbmoocajjlaaDskN
namespace Go.Proofs.Ytlkdbmoocajjlaa.Al
open Go Go.Al Go.Proofs Go.RowKit
set_option maxHeartbeats 8000000
set_option maxRecDepth 100000
set_option linter.unusedVariables false
set_option linter.unusedSimpArgs false
theorem writeRow {D F F0 : Heap} {b : Nat} {s : DS} {u : Value} {l : List UInt8} (hl : l.length ≤ 900000) (hE : Ext D F0) (hD : Dk D b s) (hr : NewRow F0 F u l) (hE2 : Ext F0 F) (i : Int) (hw : s.writes < 1000000000) :
    FnK Try.prog 28 #[.pointer (some ⟨b, 0, none⟩), .int .i64 i, u] F (fun v F' => v = .int .i64 (writeE s i l) ∧ ∃ D', Moves D F0 D' F' ∧ Dk D' b (writeS s i l)) := by
  obtain ⟨R, A, c, rfl, hc, hR, hA, hrow⟩ := newRow_apart hE hr
  have hM := Moves.ext hE hE2
  refine (write hM.inn hD hR hA l A c hrow hl i hw).mono ?_
  rintro v F' ⟨rfl, D', hM', hD'⟩
  exact ⟨rfl, D', hM.trans hM', hD'⟩
theorem rwriteRow {D F F0 : Heap} {b : Nat} {r : RS} {u : Value} {l : List UInt8} (hl : l.length ≤ 900000) (hE : Ext D F0) (hD : Rk D b r) (hr : NewRow F0 F u l) (hE2 : Ext F0 F) (i : Int) (hw : r.done < 1000000000) :
    FnK Try.prog 35 #[.pointer (some ⟨b, 0, none⟩), .int .i64 i, u] F (fun v F' => v = .int .i64 (rwriteE r i l) ∧ ∃ D', Moves D F0 D' F' ∧ Rk D' b (rwriteS r i l)) := by
  obtain ⟨R, A, c, rfl, hc, hR, hA, hrow⟩ := newRow_apart hE hr
  have hM := Moves.ext hE hE2
  refine (rwrite hM.inn hD hR hA l A c hrow hl i hw).mono ?_
  rintro v F' ⟨rfl, D', hM', hD'⟩
  exact ⟨rfl, D', hM.trans hM', hD'⟩
theorem writeS_writes (s : DS) (i : Int) (l : List UInt8) : (writeS s i l).writes ≤ s.writes + 1 ∧ (writeS s i l).size = s.size := by
  unfold writeS
  split
  · exact ⟨by omega, rfl⟩
  · split
    · exact ⟨Int.le_refl _, rfl⟩
    · exact ⟨(by omega : s.writes ≤ s.writes + 1), rfl⟩
theorem flushS_writes (s : DS) : (flushS s).writes ≤ s.writes + 1 ∧ (flushS s).size = s.size := by
  unfold flushS
  split
  · exact ⟨by omega, rfl⟩
  · exact ⟨(by omega : s.writes ≤ s.writes + 1), rfl⟩
abbrev DoesK (op i : Int) (x : UInt8) (keep : List Int) (A : Option Addr) (c b xb : Nat) (s : DS) (r : RS) (F D X : Heap) : Prop :=
    FnK Try.prog 10 #[.pointer (some ⟨b, 0, none⟩), .pointer (some ⟨xb, 0, none⟩), .agg #[.int .i64 op, .int .i64 i, .int .u8 x.toNat, .slice A keep.length c]] F
      (fun v F' => v = .bool true ∧ ∃ D' X' s' r', Both F' D' X' b xb s' r' ∧ Sim s' r' ∧ Steps F D X F' D' X' ∧ s'.writes ≤ s.writes + 1 ∧ s'.size = s.size)
theorem doesW {F D X : Heap} {b xb : Nat} {s : DS} {r : RS} (H : Both F D X b xb s r) (hS : Sim s r) (op i : Int) (x : UInt8) (keep : List Int) (A : Option Addr) (c : Nat) (hop : op = 0 ∨ op = 1 ∨ op = 2 ∨ op = 3 ∨ op = 4) (hw : s.writes < 1000000000) : DoesK op i x keep A c b xb s r F D X := by
  obtain ⟨hwe, hS2⟩ := sim_write hS i (List.replicate 256 x)
  have hW2 := writeS_writes s i (List.replicate 256 x)
  have hwr : r.done < 1000000000 := by rw [← hS.wr]; exact hw
  have hcd := fun D F F0 u hE hD hr hE2 => writeSec (D := D) (F := F) (F0 := F0) (b := b) (s := s) (u := u) x hE hD hr hE2 i hw
  have hcx := fun D F F0 u hE hD hr hE2 => rwriteSec (D := D) (F := F) (F0 := F0) (b := xb) (r := r) (u := u) x hE hD hr hE2 i hwr
  rw [← hwe] at hcx
  unfold DoesK
  generalize writeE s i (List.replicate 256 x) = we at hcd hcx
  generalize writeS s i (List.replicate 256 x) = s' at hcd hS2 hW2
  generalize rwriteS r i (List.replicate 256 x) = r' at hcx hS2
  rcases hop with rfl | rfl | rfl | rfl | rfl
  · (refine fn_walk tab_ok Try.func10 rfl rfl rfl rfl ?_; (conv => whnf))
    refine new_step (.cells #[.int .i64 0, .int .i64 i, .int .u8 x.toNat, .slice A keep.length c] 34) rfl fun p h0_p => ?_
    have hE_p := Ext.new h0_p (.cells #[.int .i64 0, .int .i64 i, .int .u8 x.toNat, .slice A keep.length c] 34)
    have hB_p := Heap.put_same F p (.cells #[.int .i64 0, .int .i64 i, .int .u8 x.toNat, .slice A keep.length c] 34)
    generalize F.put p _ = F1 at hE_p hB_p ⊢
    obtain ⟨H1, T1⟩ := H.ext hE_p
    have hO := only_at hB_p
    have hG : ∀ {F2 : Heap}, Ext F1 F2 → Ext (F1.only p) F2 := fun h => (only_ext rfl).trans h
    ((conv => whnf); repeat (first | (apply load_at; (conv => lhs; whnf); (with_reducible assumption); rfl; (conv => whnf)) | (apply load_at; (conv => lhs; rw [add_plain, add_plain]); (with_reducible assumption); rfl; (conv => whnf)) | (apply loads_at; (conv => lhs; whnf); (with_reducible assumption); rfl; (conv => whnf)) | (refine ⟨⟨by omega, by omega⟩, ?_⟩; (conv => whnf))))
    refine draw_tree_at tab_ok (by kernel_rfl) [2, 4, 9, 11] (DT.row [0, 1, 2, 3, 4, 7, 8, 9, 10, 11, 5, 6, 12, 13, 14, 15] .nil) (by kernel_rfl) (F1.only p) (only_ext rfl) ?_
    ((conv => whnf); repeat (first | (apply load_at; (conv => lhs; whnf); (with_reducible assumption); rfl; (conv => whnf)) | (apply load_at; (conv => lhs; rw [add_plain, add_plain]); (with_reducible assumption); rfl; (conv => whnf)) | (apply loads_at; (conv => lhs; whnf); (with_reducible assumption); rfl; (conv => whnf)) | (refine ⟨⟨by omega, by omega⟩, ?_⟩; (conv => whnf))))
    refine call_of (sector x F1) ?_
    rintro v F2 ⟨hr2, hE2⟩
    (conv => whnf)
    refine ⟨hG hE2, ?_⟩
    ((conv => whnf); repeat (first | (apply load_at; (conv => lhs; whnf); (with_reducible assumption); rfl; (conv => whnf)) | (apply load_at; (conv => lhs; rw [add_plain, add_plain]); (with_reducible assumption); rfl; (conv => whnf)) | (apply loads_at; (conv => lhs; whnf); (with_reducible assumption); rfl; (conv => whnf)) | (refine ⟨⟨by omega, by omega⟩, ?_⟩; (conv => whnf))))
    refine call_of (hcd D F2 F1 v H1.d H1.dk hr2 hE2) ?_
    rintro v F3 ⟨rfl, D3, M3, K3⟩
    obtain ⟨H3, T3⟩ := H1.onD M3 K3
    have hG3 : Ext (F1.only p) F3 := M3.keep (only_ext rfl) (only_apart H.d h0_p)
    (conv => whnf)
    refine ⟨hG3, ?_⟩
    ((conv => whnf); repeat (first | (apply load_at; (conv => lhs; whnf); (with_reducible assumption); rfl; (conv => whnf)) | (apply load_at; (conv => lhs; rw [add_plain, add_plain]); (with_reducible assumption); rfl; (conv => whnf)) | (apply loads_at; (conv => lhs; whnf); (with_reducible assumption); rfl; (conv => whnf)) | (refine ⟨⟨by omega, by omega⟩, ?_⟩; (conv => whnf))))
    refine call_of (sector x F3) ?_
    rintro v F4 ⟨hr4, hE4⟩
    (conv => whnf)
    refine ⟨hG3.trans hE4, ?_⟩
    ((conv => whnf); repeat (first | (apply load_at; (conv => lhs; whnf); (with_reducible assumption); rfl; (conv => whnf)) | (apply load_at; (conv => lhs; rw [add_plain, add_plain]); (with_reducible assumption); rfl; (conv => whnf)) | (apply loads_at; (conv => lhs; whnf); (with_reducible assumption); rfl; (conv => whnf)) | (refine ⟨⟨by omega, by omega⟩, ?_⟩; (conv => whnf))))
    refine call_of (hcx X F4 F3 v H3.x H3.rk hr4 hE4) ?_
    rintro v F5 ⟨rfl, X5, M5, K5⟩
    obtain ⟨H5, T5⟩ := H3.onX M5 K5
    have hG5 : Ext (F1.only p) F5 := M5.keep hG3 (only_apart H.x h0_p)
    (conv => whnf)
    refine ⟨hG5, ?_⟩
    ((conv => whnf); repeat (first | (apply load_at; (conv => lhs; whnf); (with_reducible assumption); rfl; (conv => whnf)) | (apply load_at; (conv => lhs; rw [add_plain, add_plain]); (with_reducible assumption); rfl; (conv => whnf)) | (apply loads_at; (conv => lhs; whnf); (with_reducible assumption); rfl; (conv => whnf)) | (refine ⟨⟨by omega, by omega⟩, ?_⟩; (conv => whnf))))
    refine ⟨congrArg Value.bool (beq_self_eq_true we), D3, X5, s', r', H5, hS2, T1.trans (T3.trans T5), hW2⟩
  · (refine fn_walk tab_ok Try.func10 rfl rfl rfl rfl ?_; (conv => whnf))
    refine new_step (.cells #[.int .i64 1, .int .i64 i, .int .u8 x.toNat, .slice A keep.length c] 34) rfl fun p h0_p => ?_
    have hE_p := Ext.new h0_p (.cells #[.int .i64 1, .int .i64 i, .int .u8 x.toNat, .slice A keep.length c] 34)
    have hB_p := Heap.put_same F p (.cells #[.int .i64 1, .int .i64 i, .int .u8 x.toNat, .slice A keep.length c] 34)
    generalize F.put p _ = F1 at hE_p hB_p ⊢
    obtain ⟨H1, T1⟩ := H.ext hE_p
    have hO := only_at hB_p
    have hG : ∀ {F2 : Heap}, Ext F1 F2 → Ext (F1.only p) F2 := fun h => (only_ext rfl).trans h
    ((conv => whnf); repeat (first | (apply load_at; (conv => lhs; whnf); (with_reducible assumption); rfl; (conv => whnf)) | (apply load_at; (conv => lhs; rw [add_plain, add_plain]); (with_reducible assumption); rfl; (conv => whnf)) | (apply loads_at; (conv => lhs; whnf); (with_reducible assumption); rfl; (conv => whnf)) | (refine ⟨⟨by omega, by omega⟩, ?_⟩; (conv => whnf))))
    refine draw_tree_at tab_ok (by kernel_rfl) [2, 4, 9, 11] (DT.row [0, 1, 2, 3, 4, 7, 8, 9, 10, 11, 5, 6, 12, 13, 14, 15] .nil) (by kernel_rfl) (F1.only p) (only_ext rfl) ?_
    ((conv => whnf); repeat (first | (apply load_at; (conv => lhs; whnf); (with_reducible assumption); rfl; (conv => whnf)) | (apply load_at; (conv => lhs; rw [add_plain, add_plain]); (with_reducible assumption); rfl; (conv => whnf)) | (apply loads_at; (conv => lhs; whnf); (with_reducible assumption); rfl; (conv => whnf)) | (refine ⟨⟨by omega, by omega⟩, ?_⟩; (conv => whnf))))
    refine call_of (sector x F1) ?_
    rintro v F2 ⟨hr2, hE2⟩
    (conv => whnf)
    refine ⟨hG hE2, ?_⟩
    ((conv => whnf); repeat (first | (apply load_at; (conv => lhs; whnf); (with_reducible assumption); rfl; (conv => whnf)) | (apply load_at; (conv => lhs; rw [add_plain, add_plain]); (with_reducible assumption); rfl; (conv => whnf)) | (apply loads_at; (conv => lhs; whnf); (with_reducible assumption); rfl; (conv => whnf)) | (refine ⟨⟨by omega, by omega⟩, ?_⟩; (conv => whnf))))
    refine call_of (hcd D F2 F1 v H1.d H1.dk hr2 hE2) ?_
    rintro v F3 ⟨rfl, D3, M3, K3⟩
    obtain ⟨H3, T3⟩ := H1.onD M3 K3
    have hG3 : Ext (F1.only p) F3 := M3.keep (only_ext rfl) (only_apart H.d h0_p)
    (conv => whnf)
    refine ⟨hG3, ?_⟩
    ((conv => whnf); repeat (first | (apply load_at; (conv => lhs; whnf); (with_reducible assumption); rfl; (conv => whnf)) | (apply load_at; (conv => lhs; rw [add_plain, add_plain]); (with_reducible assumption); rfl; (conv => whnf)) | (apply loads_at; (conv => lhs; whnf); (with_reducible assumption); rfl; (conv => whnf)) | (refine ⟨⟨by omega, by omega⟩, ?_⟩; (conv => whnf))))
    refine call_of (sector x F3) ?_
    rintro v F4 ⟨hr4, hE4⟩
    (conv => whnf)
    refine ⟨hG3.trans hE4, ?_⟩
    ((conv => whnf); repeat (first | (apply load_at; (conv => lhs; whnf); (with_reducible assumption); rfl; (conv => whnf)) | (apply load_at; (conv => lhs; rw [add_plain, add_plain]); (with_reducible assumption); rfl; (conv => whnf)) | (apply loads_at; (conv => lhs; whnf); (with_reducible assumption); rfl; (conv => whnf)) | (refine ⟨⟨by omega, by omega⟩, ?_⟩; (conv => whnf))))
    refine call_of (hcx X F4 F3 v H3.x H3.rk hr4 hE4) ?_
    rintro v F5 ⟨rfl, X5, M5, K5⟩
    obtain ⟨H5, T5⟩ := H3.onX M5 K5
    have hG5 : Ext (F1.only p) F5 := M5.keep hG3 (only_apart H.x h0_p)
    (conv => whnf)
    refine ⟨hG5, ?_⟩
    ((conv => whnf); repeat (first | (apply load_at; (conv => lhs; whnf); (with_reducible assumption); rfl; (conv => whnf)) | (apply load_at; (conv => lhs; rw [add_plain, add_plain]); (with_reducible assumption); rfl; (conv => whnf)) | (apply loads_at; (conv => lhs; whnf); (with_reducible assumption); rfl; (conv => whnf)) | (refine ⟨⟨by omega, by omega⟩, ?_⟩; (conv => whnf))))
    refine ⟨congrArg Value.bool (beq_self_eq_true we), D3, X5, s', r', H5, hS2, T1.trans (T3.trans T5), hW2⟩
  · (refine fn_walk tab_ok Try.func10 rfl rfl rfl rfl ?_; (conv => whnf))
    refine new_step (.cells #[.int .i64 2, .int .i64 i, .int .u8 x.toNat, .slice A keep.length c] 34) rfl fun p h0_p => ?_
    have hE_p := Ext.new h0_p (.cells #[.int .i64 2, .int .i64 i, .int .u8 x.toNat, .slice A keep.length c] 34)
    have hB_p := Heap.put_same F p (.cells #[.int .i64 2, .int .i64 i, .int .u8 x.toNat, .slice A keep.length c] 34)
    generalize F.put p _ = F1 at hE_p hB_p ⊢
    obtain ⟨H1, T1⟩ := H.ext hE_p
    have hO := only_at hB_p
    have hG : ∀ {F2 : Heap}, Ext F1 F2 → Ext (F1.only p) F2 := fun h => (only_ext rfl).trans h
    ((conv => whnf); repeat (first | (apply load_at; (conv => lhs; whnf); (with_reducible assumption); rfl; (conv => whnf)) | (apply load_at; (conv => lhs; rw [add_plain, add_plain]); (with_reducible assumption); rfl; (conv => whnf)) | (apply loads_at; (conv => lhs; whnf); (with_reducible assumption); rfl; (conv => whnf)) | (refine ⟨⟨by omega, by omega⟩, ?_⟩; (conv => whnf))))
    refine draw_tree_at tab_ok (by kernel_rfl) [2, 4, 9, 11] (DT.row [0, 1, 2, 3, 4, 7, 8, 9, 10, 11, 5, 6, 12, 13, 14, 15] .nil) (by kernel_rfl) (F1.only p) (only_ext rfl) ?_
    ((conv => whnf); repeat (first | (apply load_at; (conv => lhs; whnf); (with_reducible assumption); rfl; (conv => whnf)) | (apply load_at; (conv => lhs; rw [add_plain, add_plain]); (with_reducible assumption); rfl; (conv => whnf)) | (apply loads_at; (conv => lhs; whnf); (with_reducible assumption); rfl; (conv => whnf)) | (refine ⟨⟨by omega, by omega⟩, ?_⟩; (conv => whnf))))
    refine call_of (sector x F1) ?_
    rintro v F2 ⟨hr2, hE2⟩
    (conv => whnf)
    refine ⟨hG hE2, ?_⟩
    ((conv => whnf); repeat (first | (apply load_at; (conv => lhs; whnf); (with_reducible assumption); rfl; (conv => whnf)) | (apply load_at; (conv => lhs; rw [add_plain, add_plain]); (with_reducible assumption); rfl; (conv => whnf)) | (apply loads_at; (conv => lhs; whnf); (with_reducible assumption); rfl; (conv => whnf)) | (refine ⟨⟨by omega, by omega⟩, ?_⟩; (conv => whnf))))
    refine call_of (hcd D F2 F1 v H1.d H1.dk hr2 hE2) ?_
    rintro v F3 ⟨rfl, D3, M3, K3⟩
    obtain ⟨H3, T3⟩ := H1.onD M3 K3
    have hG3 : Ext (F1.only p) F3 := M3.keep (only_ext rfl) (only_apart H.d h0_p)
    (conv => whnf)
    refine ⟨hG3, ?_⟩
    ((conv => whnf); repeat (first | (apply load_at; (conv => lhs; whnf); (with_reducible assumption); rfl; (conv => whnf)) | (apply load_at; (conv => lhs; rw [add_plain, add_plain]); (with_reducible assumption); rfl; (conv => whnf)) | (apply loads_at; (conv => lhs; whnf); (with_reducible assumption); rfl; (conv => whnf)) | (refine ⟨⟨by omega, by omega⟩, ?_⟩; (conv => whnf))))
    refine call_of (sector x F3) ?_
    rintro v F4 ⟨hr4, hE4⟩
    (conv => whnf)
    refine ⟨hG3.trans hE4, ?_⟩
    ((conv => whnf); repeat (first | (apply load_at; (conv => lhs; whnf); (with_reducible assumption); rfl; (conv => whnf)) | (apply load_at; (conv => lhs; rw [add_plain, add_plain]); (with_reducible assumption); rfl; (conv => whnf)) | (apply loads_at; (conv => lhs; whnf); (with_reducible assumption); rfl; (conv => whnf)) | (refine ⟨⟨by omega, by omega⟩, ?_⟩; (conv => whnf))))
    refine call_of (hcx X F4 F3 v H3.x H3.rk hr4 hE4) ?_
    rintro v F5 ⟨rfl, X5, M5, K5⟩
    obtain ⟨H5, T5⟩ := H3.onX M5 K5
    have hG5 : Ext (F1.only p) F5 := M5.keep hG3 (only_apart H.x h0_p)
    (conv => whnf)
    refine ⟨hG5, ?_⟩
    ((conv => whnf); repeat (first | (apply load_at; (conv => lhs; whnf); (with_reducible assumption); rfl; (conv => whnf)) | (apply load_at; (conv => lhs; rw [add_plain, add_plain]); (with_reducible assumption); rfl; (conv => whnf)) | (apply loads_at; (conv => lhs; whnf); (with_reducible assumption); rfl; (conv => whnf)) | (refine ⟨⟨by omega, by omega⟩, ?_⟩; (conv => whnf))))
    refine ⟨congrArg Value.bool (beq_self_eq_true we), D3, X5, s', r', H5, hS2, T1.trans (T3.trans T5), hW2⟩
  · (refine fn_walk tab_ok Try.func10 rfl rfl rfl rfl ?_; (conv => whnf))
    refine new_step (.cells #[.int .i64 3, .int .i64 i, .int .u8 x.toNat, .slice A keep.length c] 34) rfl fun p h0_p => ?_
    have hE_p := Ext.new h0_p (.cells #[.int .i64 3, .int .i64 i, .int .u8 x.toNat, .slice A keep.length c] 34)
    have hB_p := Heap.put_same F p (.cells #[.int .i64 3, .int .i64 i, .int .u8 x.toNat, .slice A keep.length c] 34)
    generalize F.put p _ = F1 at hE_p hB_p ⊢
    obtain ⟨H1, T1⟩ := H.ext hE_p
    have hO := only_at hB_p
    have hG : ∀ {F2 : Heap}, Ext F1 F2 → Ext (F1.only p) F2 := fun h => (only_ext rfl).trans h
    ((conv => whnf); repeat (first | (apply load_at; (conv => lhs; whnf); (with_reducible assumption); rfl; (conv => whnf)) | (apply load_at; (conv => lhs; rw [add_plain, add_plain]); (with_reducible assumption); rfl; (conv => whnf)) | (apply loads_at; (conv => lhs; whnf); (with_reducible assumption); rfl; (conv => whnf)) | (refine ⟨⟨by omega, by omega⟩, ?_⟩; (conv => whnf))))
    refine draw_tree_at tab_ok (by kernel_rfl) [2, 4, 9, 11] (DT.row [0, 1, 2, 3, 4, 7, 8, 9, 10, 11, 5, 6, 12, 13, 14, 15] .nil) (by kernel_rfl) (F1.only p) (only_ext rfl) ?_
    ((conv => whnf); repeat (first | (apply load_at; (conv => lhs; whnf); (with_reducible assumption); rfl; (conv => whnf)) | (apply load_at; (conv => lhs; rw [add_plain, add_plain]); (with_reducible assumption); rfl; (conv => whnf)) | (apply loads_at; (conv => lhs; whnf); (with_reducible assumption); rfl; (conv => whnf)) | (refine ⟨⟨by omega, by omega⟩, ?_⟩; (conv => whnf))))
    refine call_of (sector x F1) ?_
    rintro v F2 ⟨hr2, hE2⟩
    (conv => whnf)
    refine ⟨hG hE2, ?_⟩
    ((conv => whnf); repeat (first | (apply load_at; (conv => lhs; whnf); (with_reducible assumption); rfl; (conv => whnf)) | (apply load_at; (conv => lhs; rw [add_plain, add_plain]); (with_reducible assumption); rfl; (conv => whnf)) | (apply loads_at; (conv => lhs; whnf); (with_reducible assumption); rfl; (conv => whnf)) | (refine ⟨⟨by omega, by omega⟩, ?_⟩; (conv => whnf))))
    refine call_of (hcd D F2 F1 v H1.d H1.dk hr2 hE2) ?_
    rintro v F3 ⟨rfl, D3, M3, K3⟩
    obtain ⟨H3, T3⟩ := H1.onD M3 K3
    have hG3 : Ext (F1.only p) F3 := M3.keep (only_ext rfl) (only_apart H.d h0_p)
    (conv => whnf)
    refine ⟨hG3, ?_⟩
    ((conv => whnf); repeat (first | (apply load_at; (conv => lhs; whnf); (with_reducible assumption); rfl; (conv => whnf)) | (apply load_at; (conv => lhs; rw [add_plain, add_plain]); (with_reducible assumption); rfl; (conv => whnf)) | (apply loads_at; (conv => lhs; whnf); (with_reducible assumption); rfl; (conv => whnf)) | (refine ⟨⟨by omega, by omega⟩, ?_⟩; (conv => whnf))))
    refine call_of (sector x F3) ?_
    rintro v F4 ⟨hr4, hE4⟩
    (conv => whnf)
    refine ⟨hG3.trans hE4, ?_⟩
    ((conv => whnf); repeat (first | (apply load_at; (conv => lhs; whnf); (with_reducible assumption); rfl; (conv => whnf)) | (apply load_at; (conv => lhs; rw [add_plain, add_plain]); (with_reducible assumption); rfl; (conv => whnf)) | (apply loads_at; (conv => lhs; whnf); (with_reducible assumption); rfl; (conv => whnf)) | (refine ⟨⟨by omega, by omega⟩, ?_⟩; (conv => whnf))))
    refine call_of (hcx X F4 F3 v H3.x H3.rk hr4 hE4) ?_
    rintro v F5 ⟨rfl, X5, M5, K5⟩
    obtain ⟨H5, T5⟩ := H3.onX M5 K5
    have hG5 : Ext (F1.only p) F5 := M5.keep hG3 (only_apart H.x h0_p)
    (conv => whnf)
    refine ⟨hG5, ?_⟩
    ((conv => whnf); repeat (first | (apply load_at; (conv => lhs; whnf); (with_reducible assumption); rfl; (conv => whnf)) | (apply load_at; (conv => lhs; rw [add_plain, add_plain]); (with_reducible assumption); rfl; (conv => whnf)) | (apply loads_at; (conv => lhs; whnf); (with_reducible assumption); rfl; (conv => whnf)) | (refine ⟨⟨by omega, by omega⟩, ?_⟩; (conv => whnf))))
    refine ⟨congrArg Value.bool (beq_self_eq_true we), D3, X5, s', r', H5, hS2, T1.trans (T3.trans T5), hW2⟩
  · (refine fn_walk tab_ok Try.func10 rfl rfl rfl rfl ?_; (conv => whnf))
    refine new_step (.cells #[.int .i64 4, .int .i64 i, .int .u8 x.toNat, .slice A keep.length c] 34) rfl fun p h0_p => ?_
    have hE_p := Ext.new h0_p (.cells #[.int .i64 4, .int .i64 i, .int .u8 x.toNat, .slice A keep.length c] 34)
    have hB_p := Heap.put_same F p (.cells #[.int .i64 4, .int .i64 i, .int .u8 x.toNat, .slice A keep.length c] 34)
    generalize F.put p _ = F1 at hE_p hB_p ⊢
    obtain ⟨H1, T1⟩ := H.ext hE_p
    have hO := only_at hB_p
    have hG : ∀ {F2 : Heap}, Ext F1 F2 → Ext (F1.only p) F2 := fun h => (only_ext rfl).trans h
    ((conv => whnf); repeat (first | (apply load_at; (conv => lhs; whnf); (with_reducible assumption); rfl; (conv => whnf)) | (apply load_at; (conv => lhs; rw [add_plain, add_plain]); (with_reducible assumption); rfl; (conv => whnf)) | (apply loads_at; (conv => lhs; whnf); (with_reducible assumption); rfl; (conv => whnf)) | (refine ⟨⟨by omega, by omega⟩, ?_⟩; (conv => whnf))))
    refine draw_tree_at tab_ok (by kernel_rfl) [2, 4, 9, 11] (DT.row [0, 1, 2, 3, 4, 7, 8, 9, 10, 11, 5, 6, 12, 13, 14, 15] .nil) (by kernel_rfl) (F1.only p) (only_ext rfl) ?_
    ((conv => whnf); repeat (first | (apply load_at; (conv => lhs; whnf); (with_reducible assumption); rfl; (conv => whnf)) | (apply load_at; (conv => lhs; rw [add_plain, add_plain]); (with_reducible assumption); rfl; (conv => whnf)) | (apply loads_at; (conv => lhs; whnf); (with_reducible assumption); rfl; (conv => whnf)) | (refine ⟨⟨by omega, by omega⟩, ?_⟩; (conv => whnf))))
    refine call_of (sector x F1) ?_
    rintro v F2 ⟨hr2, hE2⟩
    (conv => whnf)
    refine ⟨hG hE2, ?_⟩
    ((conv => whnf); repeat (first | (apply load_at; (conv => lhs; whnf); (with_reducible assumption); rfl; (conv => whnf)) | (apply load_at; (conv => lhs; rw [add_plain, add_plain]); (with_reducible assumption); rfl; (conv => whnf)) | (apply loads_at; (conv => lhs; whnf); (with_reducible assumption); rfl; (conv => whnf)) | (refine ⟨⟨by omega, by omega⟩, ?_⟩; (conv => whnf))))
    refine call_of (hcd D F2 F1 v H1.d H1.dk hr2 hE2) ?_
    rintro v F3 ⟨rfl, D3, M3, K3⟩
    obtain ⟨H3, T3⟩ := H1.onD M3 K3
    have hG3 : Ext (F1.only p) F3 := M3.keep (only_ext rfl) (only_apart H.d h0_p)
    (conv => whnf)
    refine ⟨hG3, ?_⟩
    ((conv => whnf); repeat (first | (apply load_at; (conv => lhs; whnf); (with_reducible assumption); rfl; (conv => whnf)) | (apply load_at; (conv => lhs; rw [add_plain, add_plain]); (with_reducible assumption); rfl; (conv => whnf)) | (apply loads_at; (conv => lhs; whnf); (with_reducible assumption); rfl; (conv => whnf)) | (refine ⟨⟨by omega, by omega⟩, ?_⟩; (conv => whnf))))
    refine call_of (sector x F3) ?_
    rintro v F4 ⟨hr4, hE4⟩
    (conv => whnf)
    refine ⟨hG3.trans hE4, ?_⟩
    ((conv => whnf); repeat (first | (apply load_at; (conv => lhs; whnf); (with_reducible assumption); rfl; (conv => whnf)) | (apply load_at; (conv => lhs; rw [add_plain, add_plain]); (with_reducible assumption); rfl; (conv => whnf)) | (apply loads_at; (conv => lhs; whnf); (with_reducible assumption); rfl; (conv => whnf)) | (refine ⟨⟨by omega, by omega⟩, ?_⟩; (conv => whnf))))
    refine call_of (hcx X F4 F3 v H3.x H3.rk hr4 hE4) ?_
    rintro v F5 ⟨rfl, X5, M5, K5⟩
    obtain ⟨H5, T5⟩ := H3.onX M5 K5
    have hG5 : Ext (F1.only p) F5 := M5.keep hG3 (only_apart H.x h0_p)
    (conv => whnf)
    refine ⟨hG5, ?_⟩
    ((conv => whnf); repeat (first | (apply load_at; (conv => lhs; whnf); (with_reducible assumption); rfl; (conv => whnf)) | (apply load_at; (conv => lhs; rw [add_plain, add_plain]); (with_reducible assumption); rfl; (conv => whnf)) | (apply loads_at; (conv => lhs; whnf); (with_reducible assumption); rfl; (conv => whnf)) | (refine ⟨⟨by omega, by omega⟩, ?_⟩; (conv => whnf))))
    refine ⟨congrArg Value.bool (beq_self_eq_true we), D3, X5, s', r', H5, hS2, T1.trans (T3.trans T5), hW2⟩
theorem doesR {F D X : Heap} {b xb : Nat} {s : DS} {r : RS} (H : Both F D X b xb s r) (hS : Sim s r) (i : Int) (x : UInt8) (keep : List Int) (A : Option Addr) (c : Nat) : DoesK 5 i x keep A c b xb s r F D X := by
  obtain ⟨h1, h2⟩ := sim_read hS i
  have hcd := fun F hE => read (D := D) (F := F) (b := b) (s := s) hE H.dk i
  have hcx := fun F hE => rread (D := X) (F := F) (b := xb) (r := r) hE H.rk i
  rw [← h1, ← h2] at hcx
  have hww : s.writes ≤ s.writes + 1 ∧ s.size = s.size := ⟨by omega, rfl⟩
  unfold DoesK
  generalize readE s i = e at hcd hcx
  generalize readL s i = l at hcd hcx
  (refine fn_walk tab_ok Try.func10 rfl rfl rfl rfl ?_; (conv => whnf))
  refine new_step (.cells #[.int .i64 5, .int .i64 i, .int .u8 x.toNat, .slice A keep.length c] 34) rfl fun p h0_p => ?_
  have hE_p := Ext.new h0_p (.cells #[.int .i64 5, .int .i64 i, .int .u8 x.toNat, .slice A keep.length c] 34)
  have hB_p := Heap.put_same F p (.cells #[.int .i64 5, .int .i64 i, .int .u8 x.toNat, .slice A keep.length c] 34)
  generalize F.put p _ = F1 at hE_p hB_p ⊢
  obtain ⟨H1, T1⟩ := H.ext hE_p
  ((conv => whnf); repeat (first | (apply load_at; (conv => lhs; whnf); (with_reducible assumption); rfl; (conv => whnf)) | (apply load_at; (conv => lhs; rw [add_plain, add_plain]); (with_reducible assumption); rfl; (conv => whnf)) | (apply loads_at; (conv => lhs; whnf); (with_reducible assumption); rfl; (conv => whnf)) | (refine ⟨⟨by omega, by omega⟩, ?_⟩; (conv => whnf))))
  refine call_of (hcd F1 H1.d) ?_
  rintro v F2 ⟨u, rfl, hr2, hE2⟩
  obtain ⟨H2, T2⟩ := H1.ext hE2
  have hB2 := hE2 _ _ hB_p
  refine short [0, 1, 5, 40] [.pointer (some ⟨b, 0, none⟩), .pointer (some ⟨xb, 0, none⟩), .pointer (some ⟨p, 0, none⟩), .tuple #[u, .int .i64 e]] rfl fun ρ => ?_
  ((conv => whnf); repeat (first | (apply load_at; (conv => lhs; whnf); (with_reducible assumption); rfl; (conv => whnf)) | (apply load_at; (conv => lhs; rw [add_plain, add_plain]); (with_reducible assumption); rfl; (conv => whnf)) | (apply loads_at; (conv => lhs; whnf); (with_reducible assumption); rfl; (conv => whnf)) | (refine ⟨⟨by omega, by omega⟩, ?_⟩; (conv => whnf))))
  refine call_of (hcx F2 H2.x) ?_
  rintro v F3 ⟨w, rfl, hr3, hE3⟩
  obtain ⟨H3, T3⟩ := H2.ext hE3
  obtain ⟨A2, c2, rfl, _, r2, _⟩ := hr2
  obtain ⟨A3, c3, rfl, _, r3, _⟩ := hr3
  have hbe := bytesEqual l l A2 A3 c2 c3 F3 (r2.mono hE3) r3
  rw [beq_self_eq_true] at hbe
  refine short [7, 8, 47] [.slice A2 l.length c2, .int .i64 e, .tuple #[.slice A3 l.length c3, .int .i64 e]] rfl fun ρ => ?_
  ((conv => whnf); repeat (first | (apply load_at; (conv => lhs; whnf); (with_reducible assumption); rfl; (conv => whnf)) | (apply load_at; (conv => lhs; rw [add_plain, add_plain]); (with_reducible assumption); rfl; (conv => whnf)) | (apply loads_at; (conv => lhs; whnf); (with_reducible assumption); rfl; (conv => whnf)) | (refine ⟨⟨by omega, by omega⟩, ?_⟩; (conv => whnf))))
  refine call_of hbe ?_
  rintro v F4 ⟨rfl, rfl⟩
  ((conv => whnf); repeat (first | (apply load_at; (conv => lhs; whnf); (with_reducible assumption); rfl; (conv => whnf)) | (apply load_at; (conv => lhs; rw [add_plain, add_plain]); (with_reducible assumption); rfl; (conv => whnf)) | (apply loads_at; (conv => lhs; whnf); (with_reducible assumption); rfl; (conv => whnf)) | (refine ⟨⟨by omega, by omega⟩, ?_⟩; (conv => whnf))))
  exact ⟨congrArg Value.bool (beq_self_eq_true e), D, X, s, r, H3, hS, T1.trans (T2.trans T3), hww⟩
theorem doesF {F D X : Heap} {b xb : Nat} {s : DS} {r : RS} (H : Both F D X b xb s r) (hS : Sim s r) (i : Int) (x : UInt8) (keep : List Int) (A : Option Addr) (c : Nat) : DoesK 6 i x keep A c b xb s r F D X := by
  obtain ⟨h1, h2⟩ := sim_flush hS H.dk.1
  have hcd := fun F hE => flush (D := D) (F := F) (b := b) (s := s) hE H.dk
  have hcx := fun F hE => rflush (D := X) (F := F) (b := xb) (r := r) hE H.rk
  rw [← h1] at hcx
  have hww := flushS_writes s
  unfold DoesK
  generalize flushE s = e at hcd hcx
  generalize flushS s = s' at hcd h2 hww
  generalize rflushS r = r' at hcx h2
  (refine fn_walk tab_ok Try.func10 rfl rfl rfl rfl ?_; (conv => whnf))
  refine new_step (.cells #[.int .i64 6, .int .i64 i, .int .u8 x.toNat, .slice A keep.length c] 34) rfl fun p h0_p => ?_
  have hE_p := Ext.new h0_p (.cells #[.int .i64 6, .int .i64 i, .int .u8 x.toNat, .slice A keep.length c] 34)
  have hB_p := Heap.put_same F p (.cells #[.int .i64 6, .int .i64 i, .int .u8 x.toNat, .slice A keep.length c] 34)
  generalize F.put p _ = F1 at hE_p hB_p ⊢
  obtain ⟨H1, T1⟩ := H.ext hE_p
  ((conv => whnf); repeat (first | (apply load_at; (conv => lhs; whnf); (with_reducible assumption); rfl; (conv => whnf)) | (apply load_at; (conv => lhs; rw [add_plain, add_plain]); (with_reducible assumption); rfl; (conv => whnf)) | (apply loads_at; (conv => lhs; whnf); (with_reducible assumption); rfl; (conv => whnf)) | (refine ⟨⟨by omega, by omega⟩, ?_⟩; (conv => whnf))))
  refine call_of (hcd F1 H1.d) ?_
  rintro v F2 ⟨rfl, D2, M2, K2⟩
  obtain ⟨H2, T2⟩ := H1.onD M2 K2
  ((conv => whnf); repeat (first | (apply load_at; (conv => lhs; whnf); (with_reducible assumption); rfl; (conv => whnf)) | (apply load_at; (conv => lhs; rw [add_plain, add_plain]); (with_reducible assumption); rfl; (conv => whnf)) | (apply loads_at; (conv => lhs; whnf); (with_reducible assumption); rfl; (conv => whnf)) | (refine ⟨⟨by omega, by omega⟩, ?_⟩; (conv => whnf))))
  refine call_of (hcx F2 H2.x) ?_
  rintro v F3 ⟨rfl, X3, M3, K3⟩
  obtain ⟨H3, T3⟩ := H2.onX M3 K3
  ((conv => whnf); repeat (first | (apply load_at; (conv => lhs; whnf); (with_reducible assumption); rfl; (conv => whnf)) | (apply load_at; (conv => lhs; rw [add_plain, add_plain]); (with_reducible assumption); rfl; (conv => whnf)) | (apply loads_at; (conv => lhs; whnf); (with_reducible assumption); rfl; (conv => whnf)) | (refine ⟨⟨by omega, by omega⟩, ?_⟩; (conv => whnf))))
  exact ⟨congrArg Value.bool (beq_self_eq_true e), D2, X3, s', r', H3, h2, T1.trans (T2.trans T3), hww⟩
theorem doesA {F D X : Heap} {b xb : Nat} {s : DS} {r : RS} (H : Both F D X b xb s r) (hS : Sim s r) (i : Int) (x : UInt8) (keep : List Int) (A : Option Addr) (c : Nat) (hi : i ≤ 9223372036854775807) : DoesK 7 i x keep A c b xb s r F D X := by
  have h2 := sim_arm hS i
  have hcd := fun F hE => arms (D := D) (F := F) (b := b) (s := s) hE H.dk i hi
  have hcx := fun F hE => rfuse (D := X) (F := F) (b := xb) (r := r) hE H.rk i hi
  have hww : ({ s with armed := decide (i ≥ 0), left := max i 0 } : DS).writes ≤ s.writes + 1 ∧ ({ s with armed := decide (i ≥ 0), left := max i 0 } : DS).size = s.size := ⟨(by omega : s.writes ≤ s.writes + 1), rfl⟩
  unfold DoesK
  generalize ({ s with armed := decide (i ≥ 0), left := max i 0 } : DS) = s' at hcd h2 hww
  generalize ({ r with armed := decide (i ≥ 0), arm := max i 0 } : RS) = r' at hcx h2
  (refine fn_walk tab_ok Try.func10 rfl rfl rfl rfl ?_; (conv => whnf))
  refine new_step (.cells #[.int .i64 7, .int .i64 i, .int .u8 x.toNat, .slice A keep.length c] 34) rfl fun p h0_p => ?_
  have hE_p := Ext.new h0_p (.cells #[.int .i64 7, .int .i64 i, .int .u8 x.toNat, .slice A keep.length c] 34)
  have hB_p := Heap.put_same F p (.cells #[.int .i64 7, .int .i64 i, .int .u8 x.toNat, .slice A keep.length c] 34)
  generalize F.put p _ = F1 at hE_p hB_p ⊢
  obtain ⟨H1, T1⟩ := H.ext hE_p
  ((conv => whnf); repeat (first | (apply load_at; (conv => lhs; whnf); (with_reducible assumption); rfl; (conv => whnf)) | (apply load_at; (conv => lhs; rw [add_plain, add_plain]); (with_reducible assumption); rfl; (conv => whnf)) | (apply loads_at; (conv => lhs; whnf); (with_reducible assumption); rfl; (conv => whnf)) | (refine ⟨⟨by omega, by omega⟩, ?_⟩; (conv => whnf))))
  refine call_of (hcd F1 H1.d) ?_
  rintro v F2 ⟨rfl, D2, M2, K2⟩
  obtain ⟨H2, T2⟩ := H1.onD M2 K2
  have hB2 := M2.out _ _ hB_p (H.d.none h0_p)
  ((conv => whnf); repeat (first | (apply load_at; (conv => lhs; whnf); (with_reducible assumption); rfl; (conv => whnf)) | (apply load_at; (conv => lhs; rw [add_plain, add_plain]); (with_reducible assumption); rfl; (conv => whnf)) | (apply loads_at; (conv => lhs; whnf); (with_reducible assumption); rfl; (conv => whnf)) | (refine ⟨⟨by omega, by omega⟩, ?_⟩; (conv => whnf))))
  refine call_of (hcx F2 H2.x) ?_
  rintro v F3 ⟨rfl, X3, M3, K3⟩
  obtain ⟨H3, T3⟩ := H2.onX M3 K3
  ((conv => whnf); repeat (first | (apply load_at; (conv => lhs; whnf); (with_reducible assumption); rfl; (conv => whnf)) | (apply load_at; (conv => lhs; rw [add_plain, add_plain]); (with_reducible assumption); rfl; (conv => whnf)) | (apply loads_at; (conv => lhs; whnf); (with_reducible assumption); rfl; (conv => whnf)) | (refine ⟨⟨by omega, by omega⟩, ?_⟩; (conv => whnf))))
  exact ⟨rfl, D2, X3, s', r', H3, h2, T1.trans (T2.trans T3), hww⟩
theorem doesC {F D X : Heap} {b xb : Nat} {s : DS} {r : RS} (H : Both F D X b xb s r) (hS : Sim s r) (i : Int) (x : UInt8) (keep : List Int) (A : Option Addr) (c : Nat) {R : Heap} (hR : Ext R F) (hDR : Apart D R) (hXR : Apart X R) (hk : RowAt R A (keep.map (.int .i64))) (hl : keep.length ≤ 60) : DoesK 8 i x keep A c b xb s r F D X := by
  have h2 := sim_crash hS H.dk.1 keep
  have hcd := fun F hE hR => crash (D := D) (F := F) (R := R) (b := b) (s := s) hE H.dk hR hDR keep A c hk (by omega)
  have hcx := fun F hE hR => rcrash (D := X) (F := F) (R := R) (b := xb) (r := r) hE H.rk hR hXR keep A c hk (by omega)
  have hww : (crashS s keep).writes ≤ s.writes + 1 ∧ (crashS s keep).size = s.size := ⟨(by omega : s.writes ≤ s.writes + 1), rfl⟩
  unfold DoesK
  generalize crashS s keep = s' at hcd h2 hww
  generalize rcrashS r keep = r' at hcx h2
  (refine fn_walk tab_ok Try.func10 rfl rfl rfl rfl ?_; (conv => whnf))
  refine new_step (.cells #[.int .i64 8, .int .i64 i, .int .u8 x.toNat, .slice A keep.length c] 34) rfl fun p h0_p => ?_
  have hE_p := Ext.new h0_p (.cells #[.int .i64 8, .int .i64 i, .int .u8 x.toNat, .slice A keep.length c] 34)
  have hB_p := Heap.put_same F p (.cells #[.int .i64 8, .int .i64 i, .int .u8 x.toNat, .slice A keep.length c] 34)
  generalize F.put p _ = F1 at hE_p hB_p ⊢
  obtain ⟨H1, T1⟩ := H.ext hE_p
  ((conv => whnf); repeat (first | (apply load_at; (conv => lhs; whnf); (with_reducible assumption); rfl; (conv => whnf)) | (apply load_at; (conv => lhs; rw [add_plain, add_plain]); (with_reducible assumption); rfl; (conv => whnf)) | (apply loads_at; (conv => lhs; whnf); (with_reducible assumption); rfl; (conv => whnf)) | (refine ⟨⟨by omega, by omega⟩, ?_⟩; (conv => whnf))))
  refine call_of (hcd F1 H1.d (hR.trans hE_p)) ?_
  rintro v F2 ⟨rfl, D2, M2, K2⟩
  obtain ⟨H2, T2⟩ := H1.onD M2 K2
  have hB2 := M2.out _ _ hB_p (H.d.none h0_p)
  ((conv => whnf); repeat (first | (apply load_at; (conv => lhs; whnf); (with_reducible assumption); rfl; (conv => whnf)) | (apply load_at; (conv => lhs; rw [add_plain, add_plain]); (with_reducible assumption); rfl; (conv => whnf)) | (apply loads_at; (conv => lhs; whnf); (with_reducible assumption); rfl; (conv => whnf)) | (refine ⟨⟨by omega, by omega⟩, ?_⟩; (conv => whnf))))
  refine call_of (hcx F2 H2.x (M2.keep (hR.trans hE_p) hDR)) ?_
  rintro v F3 ⟨rfl, X3, M3, K3⟩
  obtain ⟨H3, T3⟩ := H2.onX M3 K3
  ((conv => whnf); repeat (first | (apply load_at; (conv => lhs; whnf); (with_reducible assumption); rfl; (conv => whnf)) | (apply load_at; (conv => lhs; rw [add_plain, add_plain]); (with_reducible assumption); rfl; (conv => whnf)) | (apply loads_at; (conv => lhs; whnf); (with_reducible assumption); rfl; (conv => whnf)) | (refine ⟨⟨by omega, by omega⟩, ?_⟩; (conv => whnf))))
  exact ⟨rfl, D2, X3, s', r', H3, h2, T1.trans (T2.trans T3), hww⟩
end Go.Proofs.Ytlkdbmoocajjlaa.Al

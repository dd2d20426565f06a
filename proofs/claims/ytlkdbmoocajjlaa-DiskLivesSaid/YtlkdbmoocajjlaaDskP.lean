/- Disks: exchequerlaw03.do with a row of one byte, over what is known of memory; all its cases. -/
import Derived.Test.YtlkdbmoocajjlaaDskO
namespace Go.Proofs.Ytlkdbmoocajjlaa.Al
open Go Go.Al Go.Proofs Go.RowKit
set_option maxHeartbeats 8000000
set_option maxRecDepth 100000
set_option linter.unusedVariables false
set_option linter.unusedSimpArgs false
abbrev b1O (x : UInt8) : Obj := .cells #[.int .u8 x.toNat] 5
theorem b1_row {F : Heap} {g : Nat} {x : UInt8} (h : F g = some (b1O x)) : RowAt (F.only g) (some ⟨g, 0, none⟩) (bytesOf [x]) := row_blk (only_at h)
theorem writeOne {D F : Heap} {b g : Nat} {s : DS} {x : UInt8} (hE : Ext D F) (hD : Dk D b s) (hg : F g = some (b1O x)) (hn : D g = none) (i : Int) (hw : s.writes < 1000000000) :
    FnK Try.prog 28 #[.pointer (some ⟨b, 0, none⟩), .int .i64 i, .slice (some ⟨g, 0, none⟩) 1 1] F (fun v F' => v = .int .i64 (writeE s i [x]) ∧ ∃ D', Moves D F D' F' ∧ Dk D' b (writeS s i [x])) :=
  write hE hD (only_ext rfl) (fun c hc => by unfold Heap.only; rw [if_neg (fun e => by subst e; exact hc hn)]) [x] _ 1 (b1_row hg) (by simp) i hw
theorem rwriteOne {D F : Heap} {b g : Nat} {r : RS} {x : UInt8} (hE : Ext D F) (hD : Rk D b r) (hg : F g = some (b1O x)) (hn : D g = none) (i : Int) (hw : r.done < 1000000000) :
    FnK Try.prog 35 #[.pointer (some ⟨b, 0, none⟩), .int .i64 i, .slice (some ⟨g, 0, none⟩) 1 1] F (fun v F' => v = .int .i64 (rwriteE r i [x]) ∧ ∃ D', Moves D F D' F' ∧ Rk D' b (rwriteS r i [x])) :=
  rwrite hE hD (only_ext rfl) (fun c hc => by unfold Heap.only; rw [if_neg (fun e => by subst e; exact hc hn)]) [x] _ 1 (b1_row hg) (by simp) i hw
theorem doesX {F D X : Heap} {b xb : Nat} {s : DS} {r : RS} (H : Both F D X b xb s r) (hS : Sim s r) (op i : Int) (x : UInt8) (keep : List Int) (A : Option Addr) (c : Nat) (hop : ¬ (0 ≤ op ∧ op ≤ 8)) (hw : s.writes < 1000000000) : DoesK op i x keep A c b xb s r F D X := by
  obtain ⟨hwe, hS2⟩ := sim_write hS i [x]
  have hW2 := writeS_writes s i [x]
  have hwr : r.done < 1000000000 := by rw [← hS.wr]; exact hw
  have hcd := fun F g hE hg hn => writeOne (D := D) (F := F) (b := b) (g := g) (s := s) (x := x) hE H.dk hg hn i hw
  have hcx := fun F g hE hg hn => rwriteOne (D := X) (F := F) (b := xb) (g := g) (r := r) (x := x) hE H.rk hg hn i hwr
  rw [← hwe] at hcx
  unfold DoesK
  generalize writeE s i [x] = we at hcd hcx
  generalize writeS s i [x] = s' at hcd hS2 hW2
  generalize rwriteS r i [x] = r' at hcx hS2
  have no : ∀ n : Int, 0 ≤ n → n ≤ 8 → (op == n) = true → False := fun n h1 h2 h => by
    have e : op = n := by simpa using h
    exact hop (by rw [e]; exact ⟨h1, h2⟩)
  (refine fn_walk tab_ok Try.func10 rfl rfl rfl rfl ?_; (conv => whnf))
  refine new_step (.cells #[.int .i64 op, .int .i64 i, .int .u8 x.toNat, .slice A keep.length c] 34) rfl fun p h0_p => ?_
  have hE_p := Ext.new h0_p (.cells #[.int .i64 op, .int .i64 i, .int .u8 x.toNat, .slice A keep.length c] 34)
  have hB_p := Heap.put_same F p (.cells #[.int .i64 op, .int .i64 i, .int .u8 x.toNat, .slice A keep.length c] 34)
  generalize F.put p _ = F1 at hE_p hB_p ⊢
  obtain ⟨H1, T1⟩ := H.ext hE_p
  have hO := only_at hB_p
  have hG : ∀ {F2 : Heap}, Ext F1 F2 → Ext (F1.only p) F2 := fun h => (only_ext rfl).trans h
  have dD : Apart D (F1.only p) := only_apart H.d h0_p
  have dX : Apart X (F1.only p) := only_apart H.x h0_p
  ((conv => whnf); repeat (first | (apply load_at; (conv => lhs; whnf); (with_reducible assumption); rfl; (conv => whnf)) | (apply load_at; (conv => lhs; rw [add_plain, add_plain]); (with_reducible assumption); rfl; (conv => whnf)) | (apply loads_at; (conv => lhs; whnf); (with_reducible assumption); rfl; (conv => whnf)) | (refine ⟨⟨by omega, by omega⟩, ?_⟩; (conv => whnf))))
  refine cond_split (fun h => (no 0 (by decide) (by decide) h).elim) (fun h => ?_)
  ((conv => whnf); repeat (first | (apply load_at; (conv => lhs; whnf); (with_reducible assumption); rfl; (conv => whnf)) | (apply load_at; (conv => lhs; rw [add_plain, add_plain]); (with_reducible assumption); rfl; (conv => whnf)) | (apply loads_at; (conv => lhs; whnf); (with_reducible assumption); rfl; (conv => whnf)) | (refine ⟨⟨by omega, by omega⟩, ?_⟩; (conv => whnf))))
  refine cond_split (fun h => (no 1 (by decide) (by decide) h).elim) (fun h => ?_)
  ((conv => whnf); repeat (first | (apply load_at; (conv => lhs; whnf); (with_reducible assumption); rfl; (conv => whnf)) | (apply load_at; (conv => lhs; rw [add_plain, add_plain]); (with_reducible assumption); rfl; (conv => whnf)) | (apply loads_at; (conv => lhs; whnf); (with_reducible assumption); rfl; (conv => whnf)) | (refine ⟨⟨by omega, by omega⟩, ?_⟩; (conv => whnf))))
  refine cond_split (fun h => (no 2 (by decide) (by decide) h).elim) (fun h => ?_)
  ((conv => whnf); repeat (first | (apply load_at; (conv => lhs; whnf); (with_reducible assumption); rfl; (conv => whnf)) | (apply load_at; (conv => lhs; rw [add_plain, add_plain]); (with_reducible assumption); rfl; (conv => whnf)) | (apply loads_at; (conv => lhs; whnf); (with_reducible assumption); rfl; (conv => whnf)) | (refine ⟨⟨by omega, by omega⟩, ?_⟩; (conv => whnf))))
  refine cond_split (fun h => (no 3 (by decide) (by decide) h).elim) (fun h => ?_)
  ((conv => whnf); repeat (first | (apply load_at; (conv => lhs; whnf); (with_reducible assumption); rfl; (conv => whnf)) | (apply load_at; (conv => lhs; rw [add_plain, add_plain]); (with_reducible assumption); rfl; (conv => whnf)) | (apply loads_at; (conv => lhs; whnf); (with_reducible assumption); rfl; (conv => whnf)) | (refine ⟨⟨by omega, by omega⟩, ?_⟩; (conv => whnf))))
  refine cond_split (fun h => (no 4 (by decide) (by decide) h).elim) (fun h => ?_)
  ((conv => whnf); repeat (first | (apply load_at; (conv => lhs; whnf); (with_reducible assumption); rfl; (conv => whnf)) | (apply load_at; (conv => lhs; rw [add_plain, add_plain]); (with_reducible assumption); rfl; (conv => whnf)) | (apply loads_at; (conv => lhs; whnf); (with_reducible assumption); rfl; (conv => whnf)) | (refine ⟨⟨by omega, by omega⟩, ?_⟩; (conv => whnf))))
  refine cond_split (fun h => (no 5 (by decide) (by decide) h).elim) (fun h => ?_)
  ((conv => whnf); repeat (first | (apply load_at; (conv => lhs; whnf); (with_reducible assumption); rfl; (conv => whnf)) | (apply load_at; (conv => lhs; rw [add_plain, add_plain]); (with_reducible assumption); rfl; (conv => whnf)) | (apply loads_at; (conv => lhs; whnf); (with_reducible assumption); rfl; (conv => whnf)) | (refine ⟨⟨by omega, by omega⟩, ?_⟩; (conv => whnf))))
  refine cond_split (fun h => (no 6 (by decide) (by decide) h).elim) (fun h => ?_)
  ((conv => whnf); repeat (first | (apply load_at; (conv => lhs; whnf); (with_reducible assumption); rfl; (conv => whnf)) | (apply load_at; (conv => lhs; rw [add_plain, add_plain]); (with_reducible assumption); rfl; (conv => whnf)) | (apply loads_at; (conv => lhs; whnf); (with_reducible assumption); rfl; (conv => whnf)) | (refine ⟨⟨by omega, by omega⟩, ?_⟩; (conv => whnf))))
  refine cond_split (fun h => (no 7 (by decide) (by decide) h).elim) (fun h => ?_)
  ((conv => whnf); repeat (first | (apply load_at; (conv => lhs; whnf); (with_reducible assumption); rfl; (conv => whnf)) | (apply load_at; (conv => lhs; rw [add_plain, add_plain]); (with_reducible assumption); rfl; (conv => whnf)) | (apply loads_at; (conv => lhs; whnf); (with_reducible assumption); rfl; (conv => whnf)) | (refine ⟨⟨by omega, by omega⟩, ?_⟩; (conv => whnf))))
  refine cond_split (fun h => (no 8 (by decide) (by decide) h).elim) (fun h => ?_)
  refine short [0, 1, 5] [.pointer (some ⟨b, 0, none⟩), .pointer (some ⟨xb, 0, none⟩), .pointer (some ⟨p, 0, none⟩)] rfl fun ρ => ?_
  ((conv => whnf); repeat (first | (apply load_at; (conv => lhs; whnf); (with_reducible assumption); rfl; (conv => whnf)) | (apply load_at; (conv => lhs; rw [add_plain, add_plain]); (with_reducible assumption); rfl; (conv => whnf)) | (apply loads_at; (conv => lhs; whnf); (with_reducible assumption); rfl; (conv => whnf)) | (refine ⟨⟨by omega, by omega⟩, ?_⟩; (conv => whnf))))
  refine draw_tree_at tab_ok (by kernel_rfl) [2, 4, 9, 11] (DT.row [0, 1, 2, 3, 4, 7, 8, 9, 10, 11] (.fork (DT.row [12, 5, 6, 13, 14, 15] .nil) (DT.row [5] (.fork (DT.row [12, 6, 13, 14, 15] .nil) (DT.row [6, 12, 13, 14, 15] .nil))))) (by kernel_rfl) (F1.only p) (only_ext rfl) ?_
  ((conv => whnf); repeat (first | (apply load_at; (conv => lhs; whnf); (with_reducible assumption); rfl; (conv => whnf)) | (apply load_at; (conv => lhs; rw [add_plain, add_plain]); (with_reducible assumption); rfl; (conv => whnf)) | (apply loads_at; (conv => lhs; whnf); (with_reducible assumption); rfl; (conv => whnf)) | (refine ⟨⟨by omega, by omega⟩, ?_⟩; (conv => whnf))))
  refine ⟨?_, ?_⟩
  · ((conv => whnf); repeat (first | (apply load_at; (conv => lhs; whnf); (with_reducible assumption); rfl; (conv => whnf)) | (apply load_at; (conv => lhs; rw [add_plain, add_plain]); (with_reducible assumption); rfl; (conv => whnf)) | (apply loads_at; (conv => lhs; whnf); (with_reducible assumption); rfl; (conv => whnf)) | (refine ⟨⟨by omega, by omega⟩, ?_⟩; (conv => whnf))))
    refine new_step (.cells #[.int .u8 x.toNat] 5) rfl fun g h0_g => ?_
    have hE_g := Ext.new h0_g (.cells #[.int .u8 x.toNat] 5)
    have hB_g := Heap.put_same F1 g (.cells #[.int .u8 x.toNat] 5)
    generalize F1.put g _ = F2 at hE_g hB_g ⊢
    (conv => whnf)
    refine ⟨hG hE_g, ?_⟩
    ((conv => whnf); repeat (first | (apply load_at; (conv => lhs; whnf); (with_reducible assumption); rfl; (conv => whnf)) | (apply load_at; (conv => lhs; rw [add_plain, add_plain]); (with_reducible assumption); rfl; (conv => whnf)) | (apply loads_at; (conv => lhs; whnf); (with_reducible assumption); rfl; (conv => whnf)) | (refine ⟨⟨by omega, by omega⟩, ?_⟩; (conv => whnf))))
    refine new_step (.cells #[.int .u8 x.toNat] 5) rfl fun e h0_e => ?_
    have hE_e := Ext.new h0_e (.cells #[.int .u8 x.toNat] 5)
    have hB_e := Heap.put_same F2 e (.cells #[.int .u8 x.toNat] 5)
    generalize F2.put e _ = F3 at hE_e hB_e ⊢
    obtain ⟨H3, T3⟩ := H1.ext (hE_g.trans hE_e)
    (conv => whnf)
    refine ⟨hG (hE_g.trans hE_e), ?_⟩
    ((conv => whnf); repeat (first | (apply load_at; (conv => lhs; whnf); (with_reducible assumption); rfl; (conv => whnf)) | (apply load_at; (conv => lhs; rw [add_plain, add_plain]); (with_reducible assumption); rfl; (conv => whnf)) | (apply loads_at; (conv => lhs; whnf); (with_reducible assumption); rfl; (conv => whnf)) | (refine ⟨⟨by omega, by omega⟩, ?_⟩; (conv => whnf))))
    refine call_of (hcd F3 e H3.d hB_e ((H1.d.trans hE_g).none h0_e)) ?_
    rintro v F4 ⟨rfl, D4, M4, K4⟩
    obtain ⟨H4, T4⟩ := H3.onD M4 K4
    have hG4 := M4.keep (hG (hE_g.trans hE_e)) dD
    have hB4 : F4 g = some (b1O x) := M4.out _ _ (hE_e _ _ hB_g) (H1.d.none h0_g)
    (conv => whnf)
    refine ⟨hG4, ?_⟩
    ((conv => whnf); repeat (first | (apply load_at; (conv => lhs; whnf); (with_reducible assumption); rfl; (conv => whnf)) | (apply load_at; (conv => lhs; rw [add_plain, add_plain]); (with_reducible assumption); rfl; (conv => whnf)) | (apply loads_at; (conv => lhs; whnf); (with_reducible assumption); rfl; (conv => whnf)) | (refine ⟨⟨by omega, by omega⟩, ?_⟩; (conv => whnf))))
    refine call_of (hcx F4 g H4.x hB4 (H1.x.none h0_g)) ?_
    rintro v F5 ⟨rfl, X5, M5, K5⟩
    obtain ⟨H5, T5⟩ := H4.onX M5 K5
    (conv => whnf)
    refine ⟨M5.keep hG4 dX, ?_⟩
    ((conv => whnf); repeat (first | (apply load_at; (conv => lhs; whnf); (with_reducible assumption); rfl; (conv => whnf)) | (apply load_at; (conv => lhs; rw [add_plain, add_plain]); (with_reducible assumption); rfl; (conv => whnf)) | (apply loads_at; (conv => lhs; whnf); (with_reducible assumption); rfl; (conv => whnf)) | (refine ⟨⟨by omega, by omega⟩, ?_⟩; (conv => whnf))))
    exact ⟨congrArg Value.bool (beq_self_eq_true we), D4, X5, s', r', H5, hS2, T1.trans (T3.trans (T4.trans T5)), hW2⟩
  ((conv => whnf); repeat (first | (apply load_at; (conv => lhs; whnf); (with_reducible assumption); rfl; (conv => whnf)) | (apply load_at; (conv => lhs; rw [add_plain, add_plain]); (with_reducible assumption); rfl; (conv => whnf)) | (apply loads_at; (conv => lhs; whnf); (with_reducible assumption); rfl; (conv => whnf)) | (refine ⟨⟨by omega, by omega⟩, ?_⟩; (conv => whnf))))
  refine new_step (.cells #[.int .u8 x.toNat] 5) rfl fun e h0_e => ?_
  have hE_e := Ext.new h0_e (.cells #[.int .u8 x.toNat] 5)
  have hB_e := Heap.put_same F1 e (.cells #[.int .u8 x.toNat] 5)
  generalize F1.put e _ = F2 at hE_e hB_e ⊢
  obtain ⟨H2, T2⟩ := H1.ext hE_e
  (conv => whnf)
  refine ⟨hG hE_e, ?_⟩
  ((conv => whnf); repeat (first | (apply load_at; (conv => lhs; whnf); (with_reducible assumption); rfl; (conv => whnf)) | (apply load_at; (conv => lhs; rw [add_plain, add_plain]); (with_reducible assumption); rfl; (conv => whnf)) | (apply loads_at; (conv => lhs; whnf); (with_reducible assumption); rfl; (conv => whnf)) | (refine ⟨⟨by omega, by omega⟩, ?_⟩; (conv => whnf))))
  refine ⟨?_, ?_⟩
  · ((conv => whnf); repeat (first | (apply load_at; (conv => lhs; whnf); (with_reducible assumption); rfl; (conv => whnf)) | (apply load_at; (conv => lhs; rw [add_plain, add_plain]); (with_reducible assumption); rfl; (conv => whnf)) | (apply loads_at; (conv => lhs; whnf); (with_reducible assumption); rfl; (conv => whnf)) | (refine ⟨⟨by omega, by omega⟩, ?_⟩; (conv => whnf))))
    refine new_step (.cells #[.int .u8 x.toNat] 5) rfl fun g h0_g => ?_
    have hE_g := Ext.new h0_g (.cells #[.int .u8 x.toNat] 5)
    have hB_g := Heap.put_same F2 g (.cells #[.int .u8 x.toNat] 5)
    generalize F2.put g _ = F3 at hE_g hB_g ⊢
    obtain ⟨H3, T3⟩ := H2.ext hE_g
    (conv => whnf)
    refine ⟨hG (hE_e.trans hE_g), ?_⟩
    ((conv => whnf); repeat (first | (apply load_at; (conv => lhs; whnf); (with_reducible assumption); rfl; (conv => whnf)) | (apply load_at; (conv => lhs; rw [add_plain, add_plain]); (with_reducible assumption); rfl; (conv => whnf)) | (apply loads_at; (conv => lhs; whnf); (with_reducible assumption); rfl; (conv => whnf)) | (refine ⟨⟨by omega, by omega⟩, ?_⟩; (conv => whnf))))
    refine call_of (hcd F3 e H3.d (hE_g _ _ hB_e) (H1.d.none h0_e)) ?_
    rintro v F4 ⟨rfl, D4, M4, K4⟩
    obtain ⟨H4, T4⟩ := H3.onD M4 K4
    have hG4 := M4.keep (hG (hE_e.trans hE_g)) dD
    have hB4 : F4 g = some (b1O x) := M4.out _ _ hB_g (H2.d.none h0_g)
    (conv => whnf)
    refine ⟨hG4, ?_⟩
    ((conv => whnf); repeat (first | (apply load_at; (conv => lhs; whnf); (with_reducible assumption); rfl; (conv => whnf)) | (apply load_at; (conv => lhs; rw [add_plain, add_plain]); (with_reducible assumption); rfl; (conv => whnf)) | (apply loads_at; (conv => lhs; whnf); (with_reducible assumption); rfl; (conv => whnf)) | (refine ⟨⟨by omega, by omega⟩, ?_⟩; (conv => whnf))))
    refine call_of (hcx F4 g H4.x hB4 (H2.x.none h0_g)) ?_
    rintro v F5 ⟨rfl, X5, M5, K5⟩
    obtain ⟨H5, T5⟩ := H4.onX M5 K5
    (conv => whnf)
    refine ⟨M5.keep hG4 dX, ?_⟩
    ((conv => whnf); repeat (first | (apply load_at; (conv => lhs; whnf); (with_reducible assumption); rfl; (conv => whnf)) | (apply load_at; (conv => lhs; rw [add_plain, add_plain]); (with_reducible assumption); rfl; (conv => whnf)) | (apply loads_at; (conv => lhs; whnf); (with_reducible assumption); rfl; (conv => whnf)) | (refine ⟨⟨by omega, by omega⟩, ?_⟩; (conv => whnf))))
    exact ⟨congrArg Value.bool (beq_self_eq_true we), D4, X5, s', r', H5, hS2, T1.trans (T2.trans (T3.trans (T4.trans T5))), hW2⟩
  · ((conv => whnf); repeat (first | (apply load_at; (conv => lhs; whnf); (with_reducible assumption); rfl; (conv => whnf)) | (apply load_at; (conv => lhs; rw [add_plain, add_plain]); (with_reducible assumption); rfl; (conv => whnf)) | (apply loads_at; (conv => lhs; whnf); (with_reducible assumption); rfl; (conv => whnf)) | (refine ⟨⟨by omega, by omega⟩, ?_⟩; (conv => whnf))))
    refine call_of (hcd F2 e H2.d hB_e (H1.d.none h0_e)) ?_
    rintro v F4 ⟨rfl, D4, M4, K4⟩
    obtain ⟨H4, T4⟩ := H2.onD M4 K4
    have hG4 := M4.keep (hG hE_e) dD
    (conv => whnf)
    refine ⟨hG4, ?_⟩
    ((conv => whnf); repeat (first | (apply load_at; (conv => lhs; whnf); (with_reducible assumption); rfl; (conv => whnf)) | (apply load_at; (conv => lhs; rw [add_plain, add_plain]); (with_reducible assumption); rfl; (conv => whnf)) | (apply loads_at; (conv => lhs; whnf); (with_reducible assumption); rfl; (conv => whnf)) | (refine ⟨⟨by omega, by omega⟩, ?_⟩; (conv => whnf))))
    refine new_step (.cells #[.int .u8 x.toNat] 5) rfl fun g h0_g => ?_
    have hE_g := Ext.new h0_g (.cells #[.int .u8 x.toNat] 5)
    have hB_g := Heap.put_same F4 g (.cells #[.int .u8 x.toNat] 5)
    generalize F4.put g _ = F5 at hE_g hB_g ⊢
    obtain ⟨H5, T5⟩ := H4.ext hE_g
    (conv => whnf)
    refine ⟨hG4.trans hE_g, ?_⟩
    ((conv => whnf); repeat (first | (apply load_at; (conv => lhs; whnf); (with_reducible assumption); rfl; (conv => whnf)) | (apply load_at; (conv => lhs; rw [add_plain, add_plain]); (with_reducible assumption); rfl; (conv => whnf)) | (apply loads_at; (conv => lhs; whnf); (with_reducible assumption); rfl; (conv => whnf)) | (refine ⟨⟨by omega, by omega⟩, ?_⟩; (conv => whnf))))
    refine call_of (hcx F5 g H5.x hB_g (H4.x.none h0_g)) ?_
    rintro v F6 ⟨rfl, X6, M6, K6⟩
    obtain ⟨H6, T6⟩ := H5.onX M6 K6
    (conv => whnf)
    refine ⟨M6.keep (hG4.trans hE_g) dX, ?_⟩
    ((conv => whnf); repeat (first | (apply load_at; (conv => lhs; whnf); (with_reducible assumption); rfl; (conv => whnf)) | (apply load_at; (conv => lhs; rw [add_plain, add_plain]); (with_reducible assumption); rfl; (conv => whnf)) | (apply loads_at; (conv => lhs; whnf); (with_reducible assumption); rfl; (conv => whnf)) | (refine ⟨⟨by omega, by omega⟩, ?_⟩; (conv => whnf))))
    exact ⟨congrArg Value.bool (beq_self_eq_true we), D4, X6, s', r', H6, hS2, T1.trans (T2.trans (T4.trans (T5.trans T6))), hW2⟩
theorem does {F D X R : Heap} {b xb : Nat} {s : DS} {r : RS} (H : Both F D X b xb s r) (hS : Sim s r) (hR : Ext R F) (hDR : Apart D R) (hXR : Apart X R) (k : DoR) (hk : DoOk R k) (hl : k.keep.length ≤ 60) (hw : s.writes < 1000000000) :
    FnK Try.prog 10 #[.pointer (some ⟨b, 0, none⟩), .pointer (some ⟨xb, 0, none⟩), .agg (doC k).toArray] F
      (fun v F' => v = .bool true ∧ ∃ D' X' s' r', Both F' D' X' b xb s' r' ∧ Sim s' r' ∧ Steps F D X F' D' X' ∧ s'.writes ≤ s.writes + 1 ∧ s'.size = s.size) := by
  obtain ⟨op, i, x, keep, A, c⟩ := k
  by_cases h1 : 0 ≤ op ∧ op ≤ 8
  · by_cases h2 : op ≤ 4
    · exact doesW H hS op i x keep A c (by omega) hw
    · by_cases h5 : op = 5
      · subst h5; exact doesR H hS i x keep A c
      · by_cases h6 : op = 6
        · subst h6; exact doesF H hS i x keep A c
        · by_cases h7 : op = 7
          · subst h7; exact doesA H hS i x keep A c (by have := hk.i.2; show i ≤ _; have : i < 9223372036854775808 := this; omega)
          · obtain rfl : op = 8 := by omega
            exact doesC H hS i x keep A c hR hDR hXR hk.row hl
  · exact doesX H hS op i x keep A c h1 hw
end Go.Proofs.Ytlkdbmoocajjlaa.Al

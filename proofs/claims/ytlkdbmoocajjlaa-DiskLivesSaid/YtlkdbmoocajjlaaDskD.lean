/- Disks: disk.Read and Pending, over what is known of memory. -/
import Derived.Test.YtlkdbmoocajjlaaDskC
namespace Go.Proofs.Ytlkdbmoocajjlaa.Al
open Go Go.Al Go.Proofs Go.RowKit
set_option maxHeartbeats 8000000
set_option maxRecDepth 100000
set_option linter.unusedVariables false
set_option linter.unusedSimpArgs false
def readE (s : DS) (i : Int) : Int := if s.down = true then 5 else if ¬ (0 ≤ i ∧ i < s.size) then 1 else 0
def secB (s : DS) (i : Int) : List UInt8 := match s.fresh i with | some l => l | none => (match s.safe i with | some l => l | none => List.replicate 256 0)
def readL (s : DS) (i : Int) : List UInt8 := if s.down = true ∨ ¬ (0 ≤ i ∧ i < s.size) then [] else secB s i
theorem newRow_nil (F : Heap) : NewRow F F (.slice none 0 0) [] := ⟨none, 0, rfl, Nat.le_refl 0, RowAt.nil _ _, fun a h => by cases h⟩
theorem zeros_bytes (n : Nat) : List.replicate n (Value.int .u8 0) = bytesOf (List.replicate n 0) := by
  unfold bytesOf
  rw [List.map_replicate]
  rfl
theorem read {D F : Heap} {b : Nat} {s : DS} (hE : Ext D F) (hD : Dk D b s) (i : Int) :
    FnK Try.prog 32 #[.pointer (some ⟨b, 0, none⟩), .int .i64 i] F (fun v F' => ∃ u, v = .tuple #[u, .int .i64 (readE s i)] ∧ NewRow F F' u (readL s i) ∧ Ext F F') := by
  obtain ⟨hwf, ms, mf, S, lS, lF, G, hP⟩ := hD
  have hsz := hwf.sz
  have hcell := hE _ _ hP.cell
  have hm := may hcell
  have ht := there hcell i
  rw [show mayE s.down s.size = if s.down = true then 5 else 0 from if_pos (by omega)] at hm
  have hre : readE s i = if s.down = true then 5 else if ¬ (0 ≤ i ∧ i < s.size) then 1 else 0 := rfl
  have hrl : readL s i = if s.down = true ∨ ¬ (0 ≤ i ∧ i < s.size) then [] else secB s i := rfl
  generalize readE s i = re at hre ⊢
  generalize readL s i = rl at hrl ⊢
  (refine fn_walk tab_ok Try.func32 rfl rfl rfl rfl ?_; (conv => whnf))
  refine call_of hm ?_
  rintro v F2 ⟨rfl, rfl⟩
  ((conv => whnf); repeat (first | (apply load_at; (conv => lhs; whnf); (with_reducible assumption); rfl; (conv => whnf)) | (apply load_at; (conv => lhs; rw [add_plain, add_plain]); (with_reducible assumption); rfl; (conv => whnf)) | (apply loads_at; (conv => lhs; whnf); (with_reducible assumption); rfl; (conv => whnf)) | (refine ⟨⟨by omega, by omega⟩, ?_⟩; (conv => whnf))))
  refine cond_split (fun h => ?_) (fun h => ?_)
  · have h : ((if s.down = true then (5 : Int) else 0) != 0) = true := h
    have hd : s.down = true := by
      cases e : s.down with
      | true => rfl
      | false => rw [e] at h; exact absurd h (by decide)
    rw [if_pos hd] at hre
    rw [if_pos (.inl hd)] at hrl
    ((conv => whnf); repeat (first | (apply load_at; (conv => lhs; whnf); (with_reducible assumption); rfl; (conv => whnf)) | (apply load_at; (conv => lhs; rw [add_plain, add_plain]); (with_reducible assumption); rfl; (conv => whnf)) | (apply loads_at; (conv => lhs; whnf); (with_reducible assumption); rfl; (conv => whnf)) | (refine ⟨⟨by omega, by omega⟩, ?_⟩; (conv => whnf))))
    refine ⟨.slice none 0 0, ?_, by rw [hrl]; exact newRow_nil _, Ext.refl _⟩
    rw [hre]
    show Value.tuple #[.slice none 0 0, .int .i64 (if s.down = true then 5 else 0)] = _
    rw [if_pos hd]
  have h : ((if s.down = true then (5 : Int) else 0) != 0) = false := h
  have hd : s.down = false := by
    cases e : s.down with
    | true => rw [e] at h; exact absurd h (by decide)
    | false => rfl
  have hdn : ¬ s.down = true := by rw [hd]; decide
  rw [if_neg hdn] at hre
  ((conv => whnf); repeat (first | (apply load_at; (conv => lhs; whnf); (with_reducible assumption); rfl; (conv => whnf)) | (apply load_at; (conv => lhs; rw [add_plain, add_plain]); (with_reducible assumption); rfl; (conv => whnf)) | (apply loads_at; (conv => lhs; whnf); (with_reducible assumption); rfl; (conv => whnf)) | (refine ⟨⟨by omega, by omega⟩, ?_⟩; (conv => whnf))))
  refine call_of ht ?_
  rintro v F2 ⟨rfl, rfl⟩
  ((conv => whnf); repeat (first | (apply load_at; (conv => lhs; whnf); (with_reducible assumption); rfl; (conv => whnf)) | (apply load_at; (conv => lhs; rw [add_plain, add_plain]); (with_reducible assumption); rfl; (conv => whnf)) | (apply loads_at; (conv => lhs; whnf); (with_reducible assumption); rfl; (conv => whnf)) | (refine ⟨⟨by omega, by omega⟩, ?_⟩; (conv => whnf))))
  refine cond_split (fun h => ?_) (fun h => ?_)
  · have h : (!decide (0 ≤ i ∧ i < s.size)) = true := h
    have hi : ¬ (0 ≤ i ∧ i < s.size) := by simpa only [Bool.not_eq_true', decide_eq_false_iff_not] using h
    rw [if_pos hi] at hre
    rw [if_pos (.inr hi)] at hrl
    ((conv => whnf); repeat (first | (apply load_at; (conv => lhs; whnf); (with_reducible assumption); rfl; (conv => whnf)) | (apply load_at; (conv => lhs; rw [add_plain, add_plain]); (with_reducible assumption); rfl; (conv => whnf)) | (apply loads_at; (conv => lhs; whnf); (with_reducible assumption); rfl; (conv => whnf)) | (refine ⟨⟨by omega, by omega⟩, ?_⟩; (conv => whnf))))
    exact ⟨.slice none 0 0, by rw [hre]; rfl, by rw [hrl]; exact newRow_nil _, Ext.refl _⟩
  have h : (!decide (0 ≤ i ∧ i < s.size)) = false := h
  have hi : 0 ≤ i ∧ i < s.size := by simpa using h
  rw [if_neg (fun e => e hi)] at hre
  rw [if_neg (by rintro (e | e); exact hdn e; exact e hi)] at hrl
  ((conv => whnf); repeat (first | (apply load_at; (conv => lhs; whnf); (with_reducible assumption); rfl; (conv => whnf)) | (apply load_at; (conv => lhs; rw [add_plain, add_plain]); (with_reducible assumption); rfl; (conv => whnf)) | (apply loads_at; (conv => lhs; whnf); (with_reducible assumption); rfl; (conv => whnf)) | (refine ⟨⟨by omega, by omega⟩, ?_⟩; (conv => whnf))))
  cases hgF : getM lF i with
  | some v =>
    obtain ⟨l, h1, h2, A, c, rfl, h3, h4⟩ := hP.rf.yes i v hgF
    have hsec : secB s i = l := by unfold secB; rw [h1]
    refine op_lookup_at tab_ok rfl rfl rfl rfl rfl rfl rfl (hP.fresh.mono hE) hgF ?_
    ((conv => whnf); repeat (first | (apply load_at; (conv => lhs; whnf); (with_reducible assumption); rfl; (conv => whnf)) | (apply load_at; (conv => lhs; rw [add_plain, add_plain]); (with_reducible assumption); rfl; (conv => whnf)) | (apply loads_at; (conv => lhs; whnf); (with_reducible assumption); rfl; (conv => whnf)) | (refine ⟨⟨by omega, by omega⟩, ?_⟩; (conv => whnf))))
    refine call_of (clone l A c F2 (h4.mono (hP.base.trans hE)) (by omega)) ?_
    rintro v F3 hM
    ((conv => whnf); repeat (first | (apply load_at; (conv => lhs; whnf); (with_reducible assumption); rfl; (conv => whnf)) | (apply load_at; (conv => lhs; rw [add_plain, add_plain]); (with_reducible assumption); rfl; (conv => whnf)) | (apply loads_at; (conv => lhs; whnf); (with_reducible assumption); rfl; (conv => whnf)) | (refine ⟨⟨by omega, by omega⟩, ?_⟩; (conv => whnf))))
    exact ⟨v, by rw [hre]; rfl, by rw [hrl, hsec]; exact hM.newRow, hM.ext⟩
  | none =>
    refine op_lookup_at tab_ok rfl rfl rfl rfl rfl rfl rfl (hP.fresh.mono hE) hgF ?_
    ((conv => whnf); repeat (first | (apply load_at; (conv => lhs; whnf); (with_reducible assumption); rfl; (conv => whnf)) | (apply load_at; (conv => lhs; rw [add_plain, add_plain]); (with_reducible assumption); rfl; (conv => whnf)) | (apply loads_at; (conv => lhs; whnf); (with_reducible assumption); rfl; (conv => whnf)) | (refine ⟨⟨by omega, by omega⟩, ?_⟩; (conv => whnf))))
    cases hgS : getM lS i with
    | some v =>
      obtain ⟨l, h1, h2, A, c, rfl, h3, h4⟩ := hP.rs.yes i v hgS
      have hsec : secB s i = l := by unfold secB; rw [hP.rf.no i hgF, h1]
      refine op_lookup_at tab_ok rfl rfl rfl rfl rfl rfl rfl (hP.safe.mono hE) hgS ?_
      ((conv => whnf); repeat (first | (apply load_at; (conv => lhs; whnf); (with_reducible assumption); rfl; (conv => whnf)) | (apply load_at; (conv => lhs; rw [add_plain, add_plain]); (with_reducible assumption); rfl; (conv => whnf)) | (apply loads_at; (conv => lhs; whnf); (with_reducible assumption); rfl; (conv => whnf)) | (refine ⟨⟨by omega, by omega⟩, ?_⟩; (conv => whnf))))
      refine call_of (clone l A c F2 (h4.mono (hP.base.trans hE)) (by omega)) ?_
      rintro v F3 hM
      ((conv => whnf); repeat (first | (apply load_at; (conv => lhs; whnf); (with_reducible assumption); rfl; (conv => whnf)) | (apply load_at; (conv => lhs; rw [add_plain, add_plain]); (with_reducible assumption); rfl; (conv => whnf)) | (apply loads_at; (conv => lhs; whnf); (with_reducible assumption); rfl; (conv => whnf)) | (refine ⟨⟨by omega, by omega⟩, ?_⟩; (conv => whnf))))
      exact ⟨v, by rw [hre]; rfl, by rw [hrl, hsec]; exact hM.newRow, hM.ext⟩
    | none =>
      have hsec : secB s i = List.replicate 256 0 := by unfold secB; rw [hP.rf.no i hgF, hP.rs.no i hgS]
      refine op_lookup_at tab_ok rfl rfl rfl rfl rfl rfl rfl (hP.safe.mono hE) hgS ?_
      ((conv => whnf); repeat (first | (apply load_at; (conv => lhs; whnf); (with_reducible assumption); rfl; (conv => whnf)) | (apply load_at; (conv => lhs; rw [add_plain, add_plain]); (with_reducible assumption); rfl; (conv => whnf)) | (apply loads_at; (conv => lhs; whnf); (with_reducible assumption); rfl; (conv => whnf)) | (refine ⟨⟨by omega, by omega⟩, ?_⟩; (conv => whnf))))
      refine make_one tab_ok 256 256 rfl rfl rfl rfl rfl ⟨rfl, by decide, _, rfl, rfl⟩ (Nat.le_refl _) (by decide) fun g hg => ?_
      have hB := Heap.put_same F2 g (.cells (List.replicate 256 (Value.int .u8 0)).toArray 5)
      have hE2 := Ext.new hg (.cells (List.replicate 256 (Value.int .u8 0)).toArray 5)
      generalize F2.put g _ = F3 at hB hE2 ⊢
      ((conv => whnf); repeat (first | (apply load_at; (conv => lhs; whnf); (with_reducible assumption); rfl; (conv => whnf)) | (apply load_at; (conv => lhs; rw [add_plain, add_plain]); (with_reducible assumption); rfl; (conv => whnf)) | (apply loads_at; (conv => lhs; whnf); (with_reducible assumption); rfl; (conv => whnf)) | (refine ⟨⟨by omega, by omega⟩, ?_⟩; (conv => whnf))))
      refine ⟨.slice (some ⟨g, 0, none⟩) 256 256, by rw [hre]; rfl, ?_, hE2⟩
      rw [hrl, hsec]
      refine ⟨some ⟨g, 0, none⟩, 256, rfl, Nat.le_refl _, ?_, fun a ha => by obtain rfl := Option.some.inj ha; exact hg⟩
      rw [← zeros_bytes]
      exact row_blk hB
theorem pending {D F : Heap} {b : Nat} {s : DS} (hE : Ext D F) (hD : Dk D b s) :
    FnK Try.prog 12 #[.pointer (some ⟨b, 0, none⟩)] F (fun v F' => ∃ A c, v = .slice A s.order.length c ∧ s.order.length ≤ c ∧ RowAt F' A (s.order.map (.int .i64)) ∧ (∀ a, A = some a → F a.block = none) ∧ Ext F F') := by
  obtain ⟨hwf, ms, mf, S, lS, lF, G, hP⟩ := hD
  have hsz := hwf.sz
  have hcell := hE _ _ hP.cell
  have hm := ready hcell
  rw [show decide (s.size > 0) = true from decide_eq_true (by omega)] at hm
  have hord : s.order.length ≤ 1000000000 := by have := hwf.ord; have := hwf.wr; omega
  obtain ⟨A, c, hS, hc, hr⟩ := (hP.own.of_blk fun k o _ ho => hE _ _ ho : Own F S 3 1 s.order.length (s.order.map (.int .i64))).row
  subst hS
  (refine fn_walk tab_ok Try.func12 rfl rfl rfl rfl ?_; (conv => whnf))
  refine call_of hm ?_
  rintro v F2 ⟨rfl, rfl⟩
  ((conv => whnf); repeat (first | (apply load_at; (conv => lhs; whnf); (with_reducible assumption); rfl; (conv => whnf)) | (apply load_at; (conv => lhs; rw [add_plain, add_plain]); (with_reducible assumption); rfl; (conv => whnf)) | (apply loads_at; (conv => lhs; whnf); (with_reducible assumption); rfl; (conv => whnf)) | (refine ⟨⟨by omega, by omega⟩, ?_⟩; (conv => whnf))))
  refine call_of (cloneInts s.order A c F2 hr (by omega)) ?_
  rintro v F3 hM
  ((conv => whnf); repeat (first | (apply load_at; (conv => lhs; whnf); (with_reducible assumption); rfl; (conv => whnf)) | (apply load_at; (conv => lhs; rw [add_plain, add_plain]); (with_reducible assumption); rfl; (conv => whnf)) | (apply loads_at; (conv => lhs; whnf); (with_reducible assumption); rfl; (conv => whnf)) | (refine ⟨⟨by omega, by omega⟩, ?_⟩; (conv => whnf))))
  obtain ⟨A', c', rfl, h1, h2⟩ := hM.own.row
  exact ⟨A', c', rfl, h1, h2, fun a ha => by subst ha; exact hM.fresh a.block rfl, hM.ext⟩
end Go.Proofs.Ytlkdbmoocajjlaa.Al

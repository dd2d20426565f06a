/- Texts of this claim, joined: RedD RedE RedF RedG RedH RedI RedJ RedK RedL RedP RedQ RedR RedS RedT. -/
import Derived.Test.YtmpiggcooboenaaGreatDoorMgPag1
import Derived.Test.YtmpiggcooboenaaGreatDoorMgPag2
import Derived.Test.YtmpiggcooboenaaGreatDoorMgPag3
/- Where pages stand: the contracts of layout, and of its reference. -/
namespace Go.Proofs.YtmpiggcooboenaaGreatDoor.Al
open Go Go.Al Go.Proofs Go.RowKit
set_option maxHeartbeats 8000000
set_option maxRecDepth 100000
set_option linter.unusedVariables false
set_option linter.unusedSimpArgs false
def pagesN (n : Int) : Int := if n < 3 ∨ n > 65536 then 0 else (n - 1) / 2
def isPg (n i : Int) : Bool := decide (0 ≤ i ∧ i < pagesN n)
def slotI (n i : Int) : Int := if 0 ≤ i ∧ i < pagesN n then 1 + i else 0
def homeI (n i : Int) : Int := if 0 ≤ i ∧ i < pagesN n then 1 + pagesN n + i else 0
theorem pagesN_le (n : Int) : 0 ≤ pagesN n ∧ pagesN n ≤ 32768 ∧ (0 < pagesN n → 2 * pagesN n + 1 ≤ n) := by
  unfold pagesN
  split <;> omega
theorem two_ints (a b : Int) : ∀ v ∈ [Value.int .i64 a, .int .i64 b], v.oneCell' = true := by simp [Value.oneCell']
theorem pages (n : Int) (F : Heap) : FnK Tryz.prog 60 #[.int .i64 n] F (fun v F' => v = .int .i64 (pagesN n) ∧ F' = F) := by
  have hP : pagesN n = if n < 3 ∨ n > 65536 then 0 else (n - 1) / 2 := rfl
  generalize pagesN n = r at hP
  (refine fn_walk tab_ok Tryz.func60 rfl rfl rfl rfl ?_; (conv => whnf))
  refine cond_split (fun h => ?_) (fun h => ?_)
  · have h : (!decide (n < 3)) = true := h
    have h3 : ¬ n < 3 := by simpa using h
    ((conv => whnf); repeat (first | (apply load_at; (conv => lhs; whnf); (with_reducible assumption); rfl; (conv => whnf)) | (apply load_at; (conv => lhs; rw [add_plain, add_plain]); (with_reducible assumption); rfl; (conv => whnf)) | (apply loads_at; (conv => lhs; whnf); (with_reducible assumption); rfl; (conv => whnf)) | (refine ⟨⟨by omega, by omega⟩, ?_⟩; (conv => whnf))))
    refine cond_split (fun h => ?_) (fun h => ?_)
    · have h4 : n > 65536 := by
        have h : decide (n > 65536) = true := h
        exact of_decide_eq_true h
      rw [if_pos (.inr h4)] at hP
      ((conv => whnf); repeat (first | (apply load_at; (conv => lhs; whnf); (with_reducible assumption); rfl; (conv => whnf)) | (apply load_at; (conv => lhs; rw [add_plain, add_plain]); (with_reducible assumption); rfl; (conv => whnf)) | (apply loads_at; (conv => lhs; whnf); (with_reducible assumption); rfl; (conv => whnf)) | (refine ⟨⟨by omega, by omega⟩, ?_⟩; (conv => whnf))))
      exact ⟨congrArg (Value.int .i64) hP.symm, rfl⟩
    · have h4 : ¬ n > 65536 := by
        have h : decide (n > 65536) = false := h
        exact of_decide_eq_false h
      rw [if_neg (by omega)] at hP
      ((conv => whnf); repeat (first | (apply load_at; (conv => lhs; whnf); (with_reducible assumption); rfl; (conv => whnf)) | (apply load_at; (conv => lhs; rw [add_plain, add_plain]); (with_reducible assumption); rfl; (conv => whnf)) | (apply loads_at; (conv => lhs; whnf); (with_reducible assumption); rfl; (conv => whnf)) | (refine ⟨⟨by omega, by omega⟩, ?_⟩; (conv => whnf))))
      refine ⟨by decide, ?_⟩
      ((conv => whnf); repeat (first | (apply load_at; (conv => lhs; whnf); (with_reducible assumption); rfl; (conv => whnf)) | (apply load_at; (conv => lhs; rw [add_plain, add_plain]); (with_reducible assumption); rfl; (conv => whnf)) | (apply loads_at; (conv => lhs; whnf); (with_reducible assumption); rfl; (conv => whnf)) | (refine ⟨⟨by omega, by omega⟩, ?_⟩; (conv => whnf))))
      refine ⟨congrArg (Value.int .i64) ?_, rfl⟩
      rw [wrap_eq (show -9223372036854775808 ≤ n - 1 by omega) (by omega), Int.tdiv_eq_ediv_of_nonneg (by omega), wrap_eq (by omega) (by omega), hP]
  · have h : (!decide (n < 3)) = false := h
    have h3 : n < 3 := by simpa using h
    rw [if_pos (.inl h3)] at hP
    ((conv => whnf); repeat (first | (apply load_at; (conv => lhs; whnf); (with_reducible assumption); rfl; (conv => whnf)) | (apply load_at; (conv => lhs; rw [add_plain, add_plain]); (with_reducible assumption); rfl; (conv => whnf)) | (apply loads_at; (conv => lhs; whnf); (with_reducible assumption); rfl; (conv => whnf)) | (refine ⟨⟨by omega, by omega⟩, ?_⟩; (conv => whnf))))
    exact ⟨congrArg (Value.int .i64) hP.symm, rfl⟩
theorem rpages (n : Int) (F : Heap) : FnK Tryz.prog 39 #[.int .i64 n] F (fun v F' => v = .int .i64 (pagesN n) ∧ F' = F) := by
  have hP : pagesN n = if n < 3 ∨ n > 65536 then 0 else (n - 1) / 2 := rfl
  generalize pagesN n = r at hP
  (refine fn_walk tab_ok Tryz.func39 rfl rfl rfl rfl ?_; (conv => whnf))
  refine cond_split (fun h => ?_) (fun h => ?_)
  · have h : (!decide (n < 3)) = true := h
    have h3 : ¬ n < 3 := by simpa using h
    ((conv => whnf); repeat (first | (apply load_at; (conv => lhs; whnf); (with_reducible assumption); rfl; (conv => whnf)) | (apply load_at; (conv => lhs; rw [add_plain, add_plain]); (with_reducible assumption); rfl; (conv => whnf)) | (apply loads_at; (conv => lhs; whnf); (with_reducible assumption); rfl; (conv => whnf)) | (refine ⟨⟨by omega, by omega⟩, ?_⟩; (conv => whnf))))
    refine cond_split (fun h => ?_) (fun h => ?_)
    · have h4 : n > 65536 := by
        have h : decide (n > 65536) = true := h
        exact of_decide_eq_true h
      rw [if_pos (.inr h4)] at hP
      ((conv => whnf); repeat (first | (apply load_at; (conv => lhs; whnf); (with_reducible assumption); rfl; (conv => whnf)) | (apply load_at; (conv => lhs; rw [add_plain, add_plain]); (with_reducible assumption); rfl; (conv => whnf)) | (apply loads_at; (conv => lhs; whnf); (with_reducible assumption); rfl; (conv => whnf)) | (refine ⟨⟨by omega, by omega⟩, ?_⟩; (conv => whnf))))
      exact ⟨congrArg (Value.int .i64) hP.symm, rfl⟩
    · have h4 : ¬ n > 65536 := by
        have h : decide (n > 65536) = false := h
        exact of_decide_eq_false h
      rw [if_neg (by omega)] at hP
      ((conv => whnf); repeat (first | (apply load_at; (conv => lhs; whnf); (with_reducible assumption); rfl; (conv => whnf)) | (apply load_at; (conv => lhs; rw [add_plain, add_plain]); (with_reducible assumption); rfl; (conv => whnf)) | (apply loads_at; (conv => lhs; whnf); (with_reducible assumption); rfl; (conv => whnf)) | (refine ⟨⟨by omega, by omega⟩, ?_⟩; (conv => whnf))))
      refine ⟨by decide, ?_⟩
      ((conv => whnf); repeat (first | (apply load_at; (conv => lhs; whnf); (with_reducible assumption); rfl; (conv => whnf)) | (apply load_at; (conv => lhs; rw [add_plain, add_plain]); (with_reducible assumption); rfl; (conv => whnf)) | (apply loads_at; (conv => lhs; whnf); (with_reducible assumption); rfl; (conv => whnf)) | (refine ⟨⟨by omega, by omega⟩, ?_⟩; (conv => whnf))))
      refine ⟨congrArg (Value.int .i64) ?_, rfl⟩
      rw [wrap_eq (show -9223372036854775808 ≤ n - 1 by omega) (by omega), Int.tdiv_eq_ediv_of_nonneg (by omega), wrap_eq (by omega) (by omega), hP]
  · have h : (!decide (n < 3)) = false := h
    have h3 : n < 3 := by simpa using h
    rw [if_pos (.inl h3)] at hP
    ((conv => whnf); repeat (first | (apply load_at; (conv => lhs; whnf); (with_reducible assumption); rfl; (conv => whnf)) | (apply load_at; (conv => lhs; rw [add_plain, add_plain]); (with_reducible assumption); rfl; (conv => whnf)) | (apply loads_at; (conv => lhs; whnf); (with_reducible assumption); rfl; (conv => whnf)) | (refine ⟨⟨by omega, by omega⟩, ?_⟩; (conv => whnf))))
    exact ⟨congrArg (Value.int .i64) hP.symm, rfl⟩
theorem rslot (n i : Int) (F : Heap) : FnK Tryz.prog 64 #[.int .i64 n, .int .i64 i] F (fun v F' => v = .tuple #[.int .i64 (slotI n i), .bool (isPg n i)] ∧ F' = F) := by
  have h1 := fun F => rpages n F
  have hO : isPg n i = decide (0 ≤ i ∧ i < pagesN n) := rfl
  have hS : slotI n i = if 0 ≤ i ∧ i < pagesN n then 1 + i else 0 := rfl
  have hle := pagesN_le n
  generalize pagesN n = r at h1 hO hS hle
  generalize isPg n i = z at hO
  generalize slotI n i = s at hS
  (refine fn_walk tab_ok Tryz.func64 rfl rfl rfl rfl ?_; (conv => whnf))
  refine cond_split (fun h => ?_) (fun h => ?_)
  · have h : (!decide (i < 0)) = true := h
    have h3 : ¬ i < 0 := by simpa using h
    ((conv => whnf); repeat (first | (apply load_at; (conv => lhs; whnf); (with_reducible assumption); rfl; (conv => whnf)) | (apply load_at; (conv => lhs; rw [add_plain, add_plain]); (with_reducible assumption); rfl; (conv => whnf)) | (apply loads_at; (conv => lhs; whnf); (with_reducible assumption); rfl; (conv => whnf)) | (refine ⟨⟨by omega, by omega⟩, ?_⟩; (conv => whnf))))
    refine call_of (h1 F) ?_
    rintro v _ ⟨rfl, rfl⟩
    ((conv => whnf); repeat (first | (apply load_at; (conv => lhs; whnf); (with_reducible assumption); rfl; (conv => whnf)) | (apply load_at; (conv => lhs; rw [add_plain, add_plain]); (with_reducible assumption); rfl; (conv => whnf)) | (apply loads_at; (conv => lhs; whnf); (with_reducible assumption); rfl; (conv => whnf)) | (refine ⟨⟨by omega, by omega⟩, ?_⟩; (conv => whnf))))
    refine cond_split (fun h => ?_) (fun h => ?_)
    · have h4 : i ≥ r := of_decide_eq_true (show decide (i ≥ r) = true from h)
      rw [if_neg (by omega)] at hS
      rw [decide_eq_false (by omega)] at hO
      subst hS hO
      ((conv => whnf); repeat (first | (apply load_at; (conv => lhs; whnf); (with_reducible assumption); rfl; (conv => whnf)) | (apply load_at; (conv => lhs; rw [add_plain, add_plain]); (with_reducible assumption); rfl; (conv => whnf)) | (apply loads_at; (conv => lhs; whnf); (with_reducible assumption); rfl; (conv => whnf)) | (refine ⟨⟨by omega, by omega⟩, ?_⟩; (conv => whnf))))
      exact ⟨rfl, rfl⟩
    · have h4 : ¬ i ≥ r := of_decide_eq_false (show decide (i ≥ r) = false from h)
      rw [if_pos (by omega)] at hS
      rw [decide_eq_true (by omega)] at hO
      subst hS hO
      ((conv => whnf); repeat (first | (apply load_at; (conv => lhs; whnf); (with_reducible assumption); rfl; (conv => whnf)) | (apply load_at; (conv => lhs; rw [add_plain, add_plain]); (with_reducible assumption); rfl; (conv => whnf)) | (apply loads_at; (conv => lhs; whnf); (with_reducible assumption); rfl; (conv => whnf)) | (refine ⟨⟨by omega, by omega⟩, ?_⟩; (conv => whnf))))
      rw [wrap_eq (show -9223372036854775808 ≤ i + 1 by omega) (by omega), Int.add_comm i 1]
      exact ⟨rfl, rfl⟩
  · have h : (!decide (i < 0)) = false := h
    have h3 : i < 0 := by simpa using h
    rw [if_neg (by omega)] at hS
    rw [decide_eq_false (by omega)] at hO
    subst hS hO
    ((conv => whnf); repeat (first | (apply load_at; (conv => lhs; whnf); (with_reducible assumption); rfl; (conv => whnf)) | (apply load_at; (conv => lhs; rw [add_plain, add_plain]); (with_reducible assumption); rfl; (conv => whnf)) | (apply loads_at; (conv => lhs; whnf); (with_reducible assumption); rfl; (conv => whnf)) | (refine ⟨⟨by omega, by omega⟩, ?_⟩; (conv => whnf))))
    exact ⟨rfl, rfl⟩
theorem rhome (n i : Int) (F : Heap) : FnK Tryz.prog 61 #[.int .i64 n, .int .i64 i] F (fun v F' => v = .tuple #[.int .i64 (homeI n i), .bool (isPg n i)] ∧ F' = F) := by
  have h1 := fun F => rpages n F
  have hO : isPg n i = decide (0 ≤ i ∧ i < pagesN n) := rfl
  have hS : homeI n i = if 0 ≤ i ∧ i < pagesN n then 1 + pagesN n + i else 0 := rfl
  have hle := pagesN_le n
  generalize pagesN n = r at h1 hO hS hle
  generalize isPg n i = z at hO
  generalize homeI n i = s at hS
  (refine fn_walk tab_ok Tryz.func61 rfl rfl rfl rfl ?_; (conv => whnf))
  refine cond_split (fun h => ?_) (fun h => ?_)
  · have h : (!decide (i < 0)) = true := h
    have h3 : ¬ i < 0 := by simpa using h
    ((conv => whnf); repeat (first | (apply load_at; (conv => lhs; whnf); (with_reducible assumption); rfl; (conv => whnf)) | (apply load_at; (conv => lhs; rw [add_plain, add_plain]); (with_reducible assumption); rfl; (conv => whnf)) | (apply loads_at; (conv => lhs; whnf); (with_reducible assumption); rfl; (conv => whnf)) | (refine ⟨⟨by omega, by omega⟩, ?_⟩; (conv => whnf))))
    refine call_of (h1 F) ?_
    rintro v _ ⟨rfl, rfl⟩
    ((conv => whnf); repeat (first | (apply load_at; (conv => lhs; whnf); (with_reducible assumption); rfl; (conv => whnf)) | (apply load_at; (conv => lhs; rw [add_plain, add_plain]); (with_reducible assumption); rfl; (conv => whnf)) | (apply loads_at; (conv => lhs; whnf); (with_reducible assumption); rfl; (conv => whnf)) | (refine ⟨⟨by omega, by omega⟩, ?_⟩; (conv => whnf))))
    refine cond_split (fun h => ?_) (fun h => ?_)
    · have h4 : i ≥ r := of_decide_eq_true (show decide (i ≥ r) = true from h)
      rw [if_neg (by omega)] at hS
      rw [decide_eq_false (by omega)] at hO
      subst hS hO
      ((conv => whnf); repeat (first | (apply load_at; (conv => lhs; whnf); (with_reducible assumption); rfl; (conv => whnf)) | (apply load_at; (conv => lhs; rw [add_plain, add_plain]); (with_reducible assumption); rfl; (conv => whnf)) | (apply loads_at; (conv => lhs; whnf); (with_reducible assumption); rfl; (conv => whnf)) | (refine ⟨⟨by omega, by omega⟩, ?_⟩; (conv => whnf))))
      exact ⟨rfl, rfl⟩
    · have h4 : ¬ i ≥ r := of_decide_eq_false (show decide (i ≥ r) = false from h)
      rw [if_pos (by omega)] at hS
      rw [decide_eq_true (by omega)] at hO
      subst hS hO
      ((conv => whnf); repeat (first | (apply load_at; (conv => lhs; whnf); (with_reducible assumption); rfl; (conv => whnf)) | (apply load_at; (conv => lhs; rw [add_plain, add_plain]); (with_reducible assumption); rfl; (conv => whnf)) | (apply loads_at; (conv => lhs; whnf); (with_reducible assumption); rfl; (conv => whnf)) | (refine ⟨⟨by omega, by omega⟩, ?_⟩; (conv => whnf))))
      refine call_of (h1 _) ?_
      rintro v _ ⟨rfl, rfl⟩
      ((conv => whnf); repeat (first | (apply load_at; (conv => lhs; whnf); (with_reducible assumption); rfl; (conv => whnf)) | (apply load_at; (conv => lhs; rw [add_plain, add_plain]); (with_reducible assumption); rfl; (conv => whnf)) | (apply loads_at; (conv => lhs; whnf); (with_reducible assumption); rfl; (conv => whnf)) | (refine ⟨⟨by omega, by omega⟩, ?_⟩; (conv => whnf))))
      rw [wrap_eq (show -9223372036854775808 ≤ i + 1 by omega) (by omega), wrap_eq (by omega) (by omega), show i + 1 + r = 1 + r + i by omega]
      exact ⟨rfl, rfl⟩
  · have h : (!decide (i < 0)) = false := h
    have h3 : i < 0 := by simpa using h
    rw [if_neg (by omega)] at hS
    rw [decide_eq_false (by omega)] at hO
    subst hS hO
    ((conv => whnf); repeat (first | (apply load_at; (conv => lhs; whnf); (with_reducible assumption); rfl; (conv => whnf)) | (apply load_at; (conv => lhs; rw [add_plain, add_plain]); (with_reducible assumption); rfl; (conv => whnf)) | (apply loads_at; (conv => lhs; whnf); (with_reducible assumption); rfl; (conv => whnf)) | (refine ⟨⟨by omega, by omega⟩, ?_⟩; (conv => whnf))))
    exact ⟨rfl, rfl⟩
theorem markI (F : Heap) : FnK Tryz.prog 68 #[] F (fun v F' => v = .int .i64 0 ∧ F' = F) := by
  (refine fn_walk tab_ok Tryz.func68 rfl rfl rfl rfl ?_; (conv => whnf))
  exact ⟨rfl, rfl⟩
theorem lslots (n : Int) (F : Heap) : FnK Tryz.prog 107 #[.int .i64 n] F (fun v F' => v = .agg #[.int .i64 1, .int .i64 (pagesN n)] ∧ Ext F F') := by
  have h1 := fun F => pages n F
  generalize pagesN n = r at h1
  (refine fn_walk tab_ok Tryz.func107 rfl rfl rfl rfl ?_; (conv => whnf))
  refine new_step (.cells #[.int .i64 0, .int .i64 0] 137) rfl fun b h0_b => ?_
  have hE_b := Ext.new h0_b (.cells #[.int .i64 0, .int .i64 0] 137)
  have hB_b := Heap.put_same F b (.cells #[.int .i64 0, .int .i64 0] 137)
  generalize F.put b _ = G at hE_b hB_b ⊢
  ((conv => whnf); repeat (first | (apply load_at; (conv => lhs; whnf); (with_reducible assumption); rfl; (conv => whnf)) | (apply load_at; (conv => lhs; rw [add_plain, add_plain]); (with_reducible assumption); rfl; (conv => whnf)) | (apply loads_at; (conv => lhs; whnf); (with_reducible assumption); rfl; (conv => whnf)) | (refine ⟨⟨by omega, by omega⟩, ?_⟩; (conv => whnf))))
  refine call_of (h1 G) ?_
  rintro v G ⟨rfl, rfl⟩
  ((conv => whnf); repeat (first | (apply load_at; (conv => lhs; whnf); (with_reducible assumption); rfl; (conv => whnf)) | (apply load_at; (conv => lhs; rw [add_plain, add_plain]); (with_reducible assumption); rfl; (conv => whnf)) | (apply loads_at; (conv => lhs; whnf); (with_reducible assumption); rfl; (conv => whnf)) | (refine ⟨⟨by omega, by omega⟩, ?_⟩; (conv => whnf))))
  refine store_step b 0 _ #[.int .i64 1, .int .i64 r] rfl hB_b rfl rfl (.inl (Nat.le_refl 0)) (two_ints _ _) ?_
  have hB := Heap.put_same G b (.cells #[.int .i64 1, .int .i64 r] 137)
  have hE : Ext F (G.put b (.cells #[.int .i64 1, .int .i64 r] 137)) := hE_b.put h0_b _
  generalize G.put b _ = G2 at hB hE ⊢
  ((conv => whnf); repeat (first | (apply load_at; (conv => lhs; whnf); (with_reducible assumption); rfl; (conv => whnf)) | (apply load_at; (conv => lhs; rw [add_plain, add_plain]); (with_reducible assumption); rfl; (conv => whnf)) | (apply loads_at; (conv => lhs; whnf); (with_reducible assumption); rfl; (conv => whnf)) | (refine ⟨⟨by omega, by omega⟩, ?_⟩; (conv => whnf))))
  refine res_cells tab_ok rfl rfl hB rfl ?_
  ((conv => whnf); repeat (first | (apply load_at; (conv => lhs; whnf); (with_reducible assumption); rfl; (conv => whnf)) | (apply load_at; (conv => lhs; rw [add_plain, add_plain]); (with_reducible assumption); rfl; (conv => whnf)) | (apply loads_at; (conv => lhs; whnf); (with_reducible assumption); rfl; (conv => whnf)) | (refine ⟨⟨by omega, by omega⟩, ?_⟩; (conv => whnf))))
  exact ⟨rfl, hE⟩
theorem lhomes (n : Int) (F : Heap) : FnK Tryz.prog 81 #[.int .i64 n] F (fun v F' => v = .agg #[.int .i64 (1 + pagesN n), .int .i64 (pagesN n)] ∧ Ext F F') := by
  have h1 := fun F => lslots n F
  have hle := pagesN_le n
  generalize pagesN n = r at h1 hle
  (refine fn_walk tab_ok Tryz.func81 rfl rfl rfl rfl ?_; (conv => whnf))
  refine new_step (.cells #[.int .i64 0, .int .i64 0] 137) rfl fun b h0_b => ?_
  have hE_b := Ext.new h0_b (.cells #[.int .i64 0, .int .i64 0] 137)
  have hB_b := Heap.put_same F b (.cells #[.int .i64 0, .int .i64 0] 137)
  generalize F.put b _ = G at hE_b hB_b ⊢
  ((conv => whnf); repeat (first | (apply load_at; (conv => lhs; whnf); (with_reducible assumption); rfl; (conv => whnf)) | (apply load_at; (conv => lhs; rw [add_plain, add_plain]); (with_reducible assumption); rfl; (conv => whnf)) | (apply loads_at; (conv => lhs; whnf); (with_reducible assumption); rfl; (conv => whnf)) | (refine ⟨⟨by omega, by omega⟩, ?_⟩; (conv => whnf))))
  refine call_of (h1 G) ?_
  rintro v G1 ⟨rfl, hE1⟩
  have hB1 := hE1 _ _ hB_b
  have hE2 := hE_b.trans hE1
  ((conv => whnf); repeat (first | (apply load_at; (conv => lhs; whnf); (with_reducible assumption); rfl; (conv => whnf)) | (apply load_at; (conv => lhs; rw [add_plain, add_plain]); (with_reducible assumption); rfl; (conv => whnf)) | (apply loads_at; (conv => lhs; whnf); (with_reducible assumption); rfl; (conv => whnf)) | (refine ⟨⟨by omega, by omega⟩, ?_⟩; (conv => whnf))))
  refine new_step (.cells #[.int .i64 0, .int .i64 0] 137) rfl fun c h0_c => ?_
  have hE_c := Ext.new h0_c (.cells #[.int .i64 0, .int .i64 0] 137)
  have hB_c := Heap.put_same G1 c (.cells #[.int .i64 0, .int .i64 0] 137)
  generalize G1.put c _ = G2 at hE_c hB_c ⊢
  have hB2 := hE_c _ _ hB1
  have hbc : b ≠ c := fun e => by rw [← e, hB1] at h0_c; cases h0_c
  ((conv => whnf); repeat (first | (apply load_at; (conv => lhs; whnf); (with_reducible assumption); rfl; (conv => whnf)) | (apply load_at; (conv => lhs; rw [add_plain, add_plain]); (with_reducible assumption); rfl; (conv => whnf)) | (apply loads_at; (conv => lhs; whnf); (with_reducible assumption); rfl; (conv => whnf)) | (refine ⟨⟨by omega, by omega⟩, ?_⟩; (conv => whnf))))
  refine store_step c 0 _ #[.int .i64 1, .int .i64 r] rfl hB_c rfl rfl (.inl (Nat.le_refl 0)) (two_ints _ _) ?_
  have hB := Heap.put_same G2 c (.cells #[.int .i64 1, .int .i64 r] 137)
  have hE : Ext G1 (G2.put c (.cells #[.int .i64 1, .int .i64 r] 137)) := hE_c.put h0_c _
  have hB3 := hE _ _ hB1
  generalize G2.put c _ = G3 at hB hE hB3 ⊢
  ((conv => whnf); repeat (first | (apply load_at; (conv => lhs; whnf); (with_reducible assumption); rfl; (conv => whnf)) | (apply load_at; (conv => lhs; rw [add_plain, add_plain]); (with_reducible assumption); rfl; (conv => whnf)) | (apply loads_at; (conv => lhs; whnf); (with_reducible assumption); rfl; (conv => whnf)) | (refine ⟨⟨by omega, by omega⟩, ?_⟩; (conv => whnf))))
  rw [wrap_eq (show -9223372036854775808 ≤ 1 + r by omega) (by omega)]
  refine store_step b 0 _ #[.int .i64 (1 + r), .int .i64 r] rfl hB3 rfl rfl (.inl (Nat.le_refl 0)) (two_ints _ _) ?_
  have hB4 := Heap.put_same G3 b (.cells #[.int .i64 (1 + r), .int .i64 r] 137)
  have hE4 : Ext F (G3.put b (.cells #[.int .i64 (1 + r), .int .i64 r] 137)) := (hE2.trans hE).put h0_b _
  generalize G3.put b _ = G4 at hB4 hE4 ⊢
  ((conv => whnf); repeat (first | (apply load_at; (conv => lhs; whnf); (with_reducible assumption); rfl; (conv => whnf)) | (apply load_at; (conv => lhs; rw [add_plain, add_plain]); (with_reducible assumption); rfl; (conv => whnf)) | (apply loads_at; (conv => lhs; whnf); (with_reducible assumption); rfl; (conv => whnf)) | (refine ⟨⟨by omega, by omega⟩, ?_⟩; (conv => whnf))))
  refine res_cells tab_ok rfl rfl hB4 rfl ?_
  ((conv => whnf); repeat (first | (apply load_at; (conv => lhs; whnf); (with_reducible assumption); rfl; (conv => whnf)) | (apply load_at; (conv => lhs; rw [add_plain, add_plain]); (with_reducible assumption); rfl; (conv => whnf)) | (apply loads_at; (conv => lhs; whnf); (with_reducible assumption); rfl; (conv => whnf)) | (refine ⟨⟨by omega, by omega⟩, ?_⟩; (conv => whnf))))
  exact ⟨rfl, hE4⟩
theorem areaAt (f r i : Int) (hf : 0 ≤ f ∧ f ≤ 100000) (hr : r ≤ 100000) (F : Heap) : FnK Tryz.prog 82 #[.agg #[.int .i64 f, .int .i64 r], .int .i64 i] F (fun v F' => v = .tuple #[.int .i64 (if 0 ≤ i ∧ i < r then f + i else 0), .bool (decide (0 ≤ i ∧ i < r))] ∧ Ext F F') := by
  obtain ⟨s, hS⟩ : ∃ s, s = if 0 ≤ i ∧ i < r then f + i else 0 := ⟨_, rfl⟩
  obtain ⟨z, hO⟩ : ∃ z, z = decide (0 ≤ i ∧ i < r) := ⟨_, rfl⟩
  rw [← hS, ← hO]
  (refine fn_walk tab_ok Tryz.func82 rfl rfl rfl rfl ?_; (conv => whnf))
  refine new_step (.cells #[.int .i64 f, .int .i64 r] 137) rfl fun b h0_b => ?_
  have hE_b := Ext.new h0_b (.cells #[.int .i64 f, .int .i64 r] 137)
  have hB_b := Heap.put_same F b (.cells #[.int .i64 f, .int .i64 r] 137)
  generalize F.put b _ = G at hE_b hB_b ⊢
  ((conv => whnf); repeat (first | (apply load_at; (conv => lhs; whnf); (with_reducible assumption); rfl; (conv => whnf)) | (apply load_at; (conv => lhs; rw [add_plain, add_plain]); (with_reducible assumption); rfl; (conv => whnf)) | (apply loads_at; (conv => lhs; whnf); (with_reducible assumption); rfl; (conv => whnf)) | (refine ⟨⟨by omega, by omega⟩, ?_⟩; (conv => whnf))))
  refine cond_split (fun h => ?_) (fun h => ?_)
  · have h : (!decide (i < 0)) = true := h
    have h3 : ¬ i < 0 := by simpa using h
    ((conv => whnf); repeat (first | (apply load_at; (conv => lhs; whnf); (with_reducible assumption); rfl; (conv => whnf)) | (apply load_at; (conv => lhs; rw [add_plain, add_plain]); (with_reducible assumption); rfl; (conv => whnf)) | (apply loads_at; (conv => lhs; whnf); (with_reducible assumption); rfl; (conv => whnf)) | (refine ⟨⟨by omega, by omega⟩, ?_⟩; (conv => whnf))))
    refine cond_split (fun h => ?_) (fun h => ?_)
    · have h4 : i ≥ r := of_decide_eq_true (show decide (i ≥ r) = true from h)
      rw [if_neg (by omega)] at hS
      rw [decide_eq_false (by omega)] at hO
      subst hS hO
      ((conv => whnf); repeat (first | (apply load_at; (conv => lhs; whnf); (with_reducible assumption); rfl; (conv => whnf)) | (apply load_at; (conv => lhs; rw [add_plain, add_plain]); (with_reducible assumption); rfl; (conv => whnf)) | (apply loads_at; (conv => lhs; whnf); (with_reducible assumption); rfl; (conv => whnf)) | (refine ⟨⟨by omega, by omega⟩, ?_⟩; (conv => whnf))))
      exact ⟨rfl, hE_b⟩
    · have h4 : ¬ i ≥ r := of_decide_eq_false (show decide (i ≥ r) = false from h)
      rw [if_pos (by omega)] at hS
      rw [decide_eq_true (by omega)] at hO
      subst hS hO
      ((conv => whnf); repeat (first | (apply load_at; (conv => lhs; whnf); (with_reducible assumption); rfl; (conv => whnf)) | (apply load_at; (conv => lhs; rw [add_plain, add_plain]); (with_reducible assumption); rfl; (conv => whnf)) | (apply loads_at; (conv => lhs; whnf); (with_reducible assumption); rfl; (conv => whnf)) | (refine ⟨⟨by omega, by omega⟩, ?_⟩; (conv => whnf))))
      rw [wrap_eq (show -9223372036854775808 ≤ f + i by omega) (by omega)]
      exact ⟨rfl, hE_b⟩
  · have h : (!decide (i < 0)) = false := h
    have h3 : i < 0 := by simpa using h
    rw [if_neg (by omega)] at hS
    rw [decide_eq_false (by omega)] at hO
    subst hS hO
    ((conv => whnf); repeat (first | (apply load_at; (conv => lhs; whnf); (with_reducible assumption); rfl; (conv => whnf)) | (apply load_at; (conv => lhs; rw [add_plain, add_plain]); (with_reducible assumption); rfl; (conv => whnf)) | (apply loads_at; (conv => lhs; whnf); (with_reducible assumption); rfl; (conv => whnf)) | (refine ⟨⟨by omega, by omega⟩, ?_⟩; (conv => whnf))))
    exact ⟨rfl, hE_b⟩
theorem slot (n i : Int) (F : Heap) : FnK Tryz.prog 79 #[.int .i64 n, .int .i64 i] F (fun v F' => v = .tuple #[.int .i64 (slotI n i), .bool (isPg n i)] ∧ Ext F F') := by
  have hle := pagesN_le n
  have h1 := fun F => lslots n F
  have h2 := fun F => areaAt 1 (pagesN n) i (by decide) (by omega) F
  have hS : slotI n i = if 0 ≤ i ∧ i < pagesN n then 1 + i else 0 := rfl
  have hO : isPg n i = decide (0 ≤ i ∧ i < pagesN n) := rfl
  rw [← hS, ← hO] at h2
  generalize slotI n i = s at h2
  generalize isPg n i = z at h2
  generalize pagesN n = r at h1 h2
  (refine fn_walk tab_ok Tryz.func79 rfl rfl rfl rfl ?_; (conv => whnf))
  refine call_of (h1 F) ?_
  rintro v F1 ⟨rfl, hE1⟩
  ((conv => whnf); repeat (first | (apply load_at; (conv => lhs; whnf); (with_reducible assumption); rfl; (conv => whnf)) | (apply load_at; (conv => lhs; rw [add_plain, add_plain]); (with_reducible assumption); rfl; (conv => whnf)) | (apply loads_at; (conv => lhs; whnf); (with_reducible assumption); rfl; (conv => whnf)) | (refine ⟨⟨by omega, by omega⟩, ?_⟩; (conv => whnf))))
  refine call_of (h2 F1) ?_
  rintro v F2 ⟨rfl, hE2⟩
  ((conv => whnf); repeat (first | (apply load_at; (conv => lhs; whnf); (with_reducible assumption); rfl; (conv => whnf)) | (apply load_at; (conv => lhs; rw [add_plain, add_plain]); (with_reducible assumption); rfl; (conv => whnf)) | (apply loads_at; (conv => lhs; whnf); (with_reducible assumption); rfl; (conv => whnf)) | (refine ⟨⟨by omega, by omega⟩, ?_⟩; (conv => whnf))))
  exact ⟨rfl, hE1.trans hE2⟩
theorem home (n i : Int) (F : Heap) : FnK Tryz.prog 54 #[.int .i64 n, .int .i64 i] F (fun v F' => v = .tuple #[.int .i64 (homeI n i), .bool (isPg n i)] ∧ Ext F F') := by
  have hle := pagesN_le n
  have h1 := fun F => lhomes n F
  have h2 := fun F => areaAt (1 + pagesN n) (pagesN n) i (by omega) (by omega) F
  have hS : homeI n i = if 0 ≤ i ∧ i < pagesN n then 1 + pagesN n + i else 0 := rfl
  have hO : isPg n i = decide (0 ≤ i ∧ i < pagesN n) := rfl
  rw [← hS, ← hO] at h2
  generalize homeI n i = s at h2
  generalize isPg n i = z at h2
  generalize pagesN n = r at h1 h2
  (refine fn_walk tab_ok Tryz.func54 rfl rfl rfl rfl ?_; (conv => whnf))
  refine call_of (h1 F) ?_
  rintro v F1 ⟨rfl, hE1⟩
  ((conv => whnf); repeat (first | (apply load_at; (conv => lhs; whnf); (with_reducible assumption); rfl; (conv => whnf)) | (apply load_at; (conv => lhs; rw [add_plain, add_plain]); (with_reducible assumption); rfl; (conv => whnf)) | (apply loads_at; (conv => lhs; whnf); (with_reducible assumption); rfl; (conv => whnf)) | (refine ⟨⟨by omega, by omega⟩, ?_⟩; (conv => whnf))))
  refine call_of (h2 F1) ?_
  rintro v F2 ⟨rfl, hE2⟩
  ((conv => whnf); repeat (first | (apply load_at; (conv => lhs; whnf); (with_reducible assumption); rfl; (conv => whnf)) | (apply load_at; (conv => lhs; rw [add_plain, add_plain]); (with_reducible assumption); rfl; (conv => whnf)) | (apply loads_at; (conv => lhs; whnf); (with_reducible assumption); rfl; (conv => whnf)) | (refine ⟨⟨by omega, by omega⟩, ?_⟩; (conv => whnf))))
  exact ⟨rfl, hE1.trans hE2⟩
end Go.Proofs.YtmpiggcooboenaaGreatDoor.Al
/- Logs: what a disk does in plain words, whichever it is; redo.write, what stands at the mark, redo.Format. -/
namespace Go.Proofs.YtmpiggcooboenaaGreatDoor.Al
open Go Go.Al Go.Proofs Go.RowKit
set_option maxHeartbeats 8000000
set_option maxRecDepth 100000
set_option linter.unusedVariables false
set_option linter.unusedSimpArgs false
/-- What a disk does, whichever it is. -/
structure DOps (α : Type) where
  sz : α → Int
  rdE : α → Int → Int
  rdL : α → Int → List UInt8
  wrE : α → Int → List UInt8 → Int
  wrS : α → Int → List UInt8 → α
  flE : α → Int
  flS : α → α
def dsO : DOps DS := ⟨fun s => s.size, readE, readL, writeE, writeS, flushE, flushS⟩
def rsO : DOps RS := ⟨fun r => (r.L.length : Int), rreadE, rreadL, rwriteE, rwriteS, fun r => if r.down = true then 5 else 0, rflushS⟩
/-- Pieces are written in order, up to the first that is refused; then it is flushed. -/
def runW {α : Type} (o : DOps α) : α → List (Int × List UInt8) → α × Int
  | a, [] => (o.flS a, o.flE a)
  | a, p :: ps => if o.wrE a p.1 p.2 = 0 then runW o (o.wrS a p.1 p.2) ps else (o.wrS a p.1 p.2, o.wrE a p.1 p.2)
theorem runW_cons {α : Type} (o : DOps α) (a : α) (p : Int × List UInt8) (ps : List (Int × List UInt8)) : runW o a (p :: ps) = if o.wrE a p.1 p.2 = 0 then runW o (o.wrS a p.1 p.2) ps else (o.wrS a p.1 p.2, o.wrE a p.1 p.2) := rfl
theorem writes_le (s : DS) (i : Int) (l : List UInt8) : (writeS s i l).writes ≤ s.writes + 1 ∧ (writeS s i l).size = s.size := by
  unfold writeS
  split
  · exact ⟨by omega, rfl⟩
  split
  · exact ⟨Int.le_refl _, rfl⟩
  · exact ⟨by show s.writes ≤ s.writes + 1; omega, rfl⟩
theorem flush_le (s : DS) : (flushS s).writes = s.writes ∧ (flushS s).size = s.size := by
  unfold flushS
  split <;> exact ⟨rfl, rfl⟩
theorem runW_le : ∀ (ps : List (Int × List UInt8)) (s : DS), (runW dsO s ps).1.writes ≤ s.writes + ps.length ∧ (runW dsO s ps).1.size = s.size
  | [], s => by
    obtain ⟨h1, h2⟩ := flush_le s
    exact ⟨by show (flushS s).writes ≤ s.writes + (0 : Nat); omega, h2⟩
  | p :: ps, s => by
    rw [runW_cons]
    obtain ⟨h1, h2⟩ := writes_le s p.1 p.2
    split
    · obtain ⟨h3, h4⟩ := runW_le ps (dsO.wrS s p.1 p.2)
      replace h3 : (runW dsO (writeS s p.1 p.2) ps).1.writes ≤ (writeS s p.1 p.2).writes + ps.length := h3
      replace h4 : (runW dsO (writeS s p.1 p.2) ps).1.size = (writeS s p.1 p.2).size := h4
      refine ⟨?_, h4.trans h2⟩
      show (runW dsO (writeS s p.1 p.2) ps).1.writes ≤ s.writes + ((ps.length + 1 : Nat) : Int)
      omega
    · refine ⟨?_, h2⟩
      show (writeS s p.1 p.2).writes ≤ s.writes + ((ps.length + 1 : Nat) : Int)
      omega
theorem read_len {D : Heap} {b : Nat} {s : DS} (hD : Dk D b s) (i : Int) : (readL s i).length ≤ 256 := by
  obtain ⟨hwf, ms, mf, S, lS, lF, G, hP⟩ := hD
  unfold readL
  split
  · exact Nat.zero_le _
  unfold secB
  split
  · next l hl =>
    cases hm : getM lF i with
    | none => rw [hP.rf.no i hm] at hl; cases hl
    | some v =>
      obtain ⟨l', h1, h2, _⟩ := hP.rf.yes i v hm
      rw [hl] at h1; cases h1; omega
  · split
    · next l hl =>
      cases hm : getM lS i with
      | none => rw [hP.rs.no i hm] at hl; cases hl
      | some v =>
        obtain ⟨l', h1, h2, _⟩ := hP.rs.yes i v hm
        rw [hl] at h1; cases h1; omega
    · rw [List.length_replicate]; exact Nat.le_refl _
/-- A piece of a log. -/
structure PcR where
  at_ : Int
  l : List UInt8
  A : Option Addr
  c : Nat
def pcC (p : PcR) : List Value := [.int .i64 p.at_, .slice p.A p.l.length p.c]
theorem pcC_len (p : PcR) : (pcC p).length = 2 := rfl
def pcW (p : PcR) : Int × List UInt8 := (p.at_, p.l)
structure PcOk (G : Heap) (p : PcR) : Prop where
  row : RowAt G p.A (bytesOf p.l)
  len : p.l.length ≤ 900000
theorem PcOk.mono {F G : Heap} {p : PcR} (h : PcOk F p) (hE : Ext F G) : PcOk G p := ⟨h.row.mono hE, h.len⟩
abbrev pcO (p : PcR) : Obj := .cells (pcC p).toArray 117
theorem pc_one (p : PcR) : ∀ v ∈ pcC p, v.oneCell' = true := by simp [pcC, Value.oneCell']
theorem redoWrite {D F R : Heap} {b : Nat} {s : DS} (hE : Ext D F) (hD : Dk D b s) (hR : Ext R F) (hA : Apart D R) (ps : List PcR) (A : Option Addr) (c : Nat) (hr : RowAt R A (rowS pcC ps)) (hp : ∀ p ∈ ps, PcOk R p) (hl : ps.length ≤ 100000) (hw : s.writes + ps.length < 1000000000) :
    FnK Tryz.prog 43 #[.pointer (some ⟨b, 0, none⟩), .slice A ps.length c] F (fun v F' => v = .int .i64 (runW dsO s (ps.map pcW)).2 ∧ ∃ D', Moves D F D' F' ∧ Dk D' b (runW dsO s (ps.map pcW)).1) := by
  obtain ⟨res, hres⟩ : ∃ r, r = runW dsO s (ps.map pcW) := ⟨_, rfl⟩
  rw [← hres]
  (refine fn_walk tab_ok Tryz.func43 rfl rfl rfl rfl ?_; (conv => whnf))
  refine loop_slots [0, 8, 9, 10] (fun k vs F' => ∃ (i : Nat) (s1 : DS) (D1 : Heap), i + k = ps.length ∧ vs = [.pointer (some ⟨b, 0, none⟩), .slice A ps.length c, .int .i64 (ps.length : Int), .int .i64 (i : Int)] ∧ Moves D F D1 F' ∧ Dk D1 b s1 ∧ s1.writes + k < 1000000000 ∧ res = runW dsO s1 ((ps.drop i).map pcW)) ps.length ⟨0, s, D, by omega, rfl, Moves.refl hE, hD, hw, hres⟩ ?_
  rintro k vs F1 ρ ⟨i, s1, D1, hik, rfl, hM, hD1, hw1, hrs⟩
  have hR1 := hM.keep hR hA
  have hA1 := hM.apart hR hA
  ((conv => whnf); repeat (first | (apply load_at; (conv => lhs; whnf); (with_reducible assumption); rfl; (conv => whnf)) | (apply load_at; (conv => lhs; rw [add_plain, add_plain]); (with_reducible assumption); rfl; (conv => whnf)) | (apply loads_at; (conv => lhs; whnf); (with_reducible assumption); rfl; (conv => whnf)) | (refine ⟨⟨by omega, by omega⟩, ?_⟩; (conv => whnf))))
  refine cond_split (fun h => ?_) (fun h => ?_)
  · have hi : i < ps.length := by
      have h : decide ((i : Int) < (ps.length : Int)) = true := h
      have := of_decide_eq_true h
      omega
    obtain ⟨ad, rfl⟩ := hr.some (by rw [rowS_len pcC_len]; omega)
    have hx : ps[i]? = some ps[i] := List.getElem?_eq_getElem hi
    have hok := (hp _ (List.getElem_mem hi)).mono hR1
    rw [List.drop_eq_getElem_cons hi, List.map_cons, runW_cons] at hrs
    have hL : ∀ K : Value → Prop, K (.agg (pcC ps[i]).toArray) → LoadsK F1 (ad.add (Int.toNat (i : Int) * 2)) 2 K := fun K hk => rowS_loads pcC_len (by decide) (hr.mono hR1) hx hk
    have hrow := (hp _ (List.getElem_mem hi)).row
    generalize ps[i] = p at hok hrs hL hrow
    obtain ⟨pat, pl, pA, pc⟩ := p
    have hle := writes_le s1 pat pl
    ((conv => whnf); repeat (first | (apply load_at; (conv => lhs; whnf); (with_reducible assumption); rfl; (conv => whnf)) | (apply load_at; (conv => lhs; rw [add_plain, add_plain]); (with_reducible assumption); rfl; (conv => whnf)) | (apply loads_at; (conv => lhs; whnf); (with_reducible assumption); rfl; (conv => whnf)) | (refine ⟨⟨by omega, by omega⟩, ?_⟩; (conv => whnf))))
    refine hL _ ?_
    ((conv => whnf); repeat (first | (apply load_at; (conv => lhs; whnf); (with_reducible assumption); rfl; (conv => whnf)) | (apply load_at; (conv => lhs; rw [add_plain, add_plain]); (with_reducible assumption); rfl; (conv => whnf)) | (apply loads_at; (conv => lhs; whnf); (with_reducible assumption); rfl; (conv => whnf)) | (refine ⟨⟨by omega, by omega⟩, ?_⟩; (conv => whnf))))
    refine new_step (.cells #[.int .i64 0, .slice none 0 0] 117) rfl fun q h0_q => ?_
    have hE_q := Ext.new h0_q (.cells #[.int .i64 0, .slice none 0 0] 117)
    have hB_q := Heap.put_same F1 q (.cells #[.int .i64 0, .slice none 0 0] 117)
    generalize F1.put q _ = F2 at hE_q hB_q ⊢
    ((conv => whnf); repeat (first | (apply load_at; (conv => lhs; whnf); (with_reducible assumption); rfl; (conv => whnf)) | (apply load_at; (conv => lhs; rw [add_plain, add_plain]); (with_reducible assumption); rfl; (conv => whnf)) | (apply loads_at; (conv => lhs; whnf); (with_reducible assumption); rfl; (conv => whnf)) | (refine ⟨⟨by omega, by omega⟩, ?_⟩; (conv => whnf))))
    refine store_step q 0 _ (pcC ⟨pat, pl, pA, pc⟩).toArray rfl hB_q rfl rfl (.inl (Nat.le_refl 0)) (pc_one ⟨pat, pl, pA, pc⟩) ?_
    have hB := Heap.put_same F2 q (pcO ⟨pat, pl, pA, pc⟩)
    have hE3 : Ext F1 (F2.put q (pcO ⟨pat, pl, pA, pc⟩)) := hE_q.put h0_q _
    generalize F2.put q _ = F3 at hB hE3 ⊢
    have hM3 := hM.trans (Moves.ext hM.inn hE3)
    ((conv => whnf); repeat (first | (apply load_at; (conv => lhs; whnf); (with_reducible assumption); rfl; (conv => whnf)) | (apply load_at; (conv => lhs; rw [add_plain, add_plain]); (with_reducible assumption); rfl; (conv => whnf)) | (apply loads_at; (conv => lhs; whnf); (with_reducible assumption); rfl; (conv => whnf)) | (refine ⟨⟨by omega, by omega⟩, ?_⟩; (conv => whnf))))
    refine call_of (write hM3.inn hD1 (hR1.trans hE3) hA1 pl pA pc hrow hok.len pat (by omega)) ?_
    rintro v F4 ⟨rfl, D2, hM4, hD2⟩
    have hM5 := hM3.trans hM4
    replace hrs : res = if writeE s1 pat pl = 0 then runW dsO (writeS s1 pat pl) ((ps.drop (i + 1)).map pcW) else (writeS s1 pat pl, writeE s1 pat pl) := hrs
    generalize writeS s1 pat pl = s2 at hrs hD2 hle
    generalize writeE s1 pat pl = e2 at hrs ⊢
    refine short [0, 8, 9, 10, 19] [.pointer (some ⟨b, 0, none⟩), .slice (some ad) ps.length c, .int .i64 (ps.length : Int), .int .i64 (i : Int), .int .i64 e2] rfl fun ρ => ?_
    ((conv => whnf); repeat (first | (apply load_at; (conv => lhs; whnf); (with_reducible assumption); rfl; (conv => whnf)) | (apply load_at; (conv => lhs; rw [add_plain, add_plain]); (with_reducible assumption); rfl; (conv => whnf)) | (apply loads_at; (conv => lhs; whnf); (with_reducible assumption); rfl; (conv => whnf)) | (refine ⟨⟨by omega, by omega⟩, ?_⟩; (conv => whnf))))
    refine cond_split (fun h => ?_) (fun h => ?_)
    · have he : ¬ e2 = 0 := by
        have h : (e2 != 0) = true := h
        simpa using h
      rw [if_neg he] at hrs
      rw [hrs]
      ((conv => whnf); repeat (first | (apply load_at; (conv => lhs; whnf); (with_reducible assumption); rfl; (conv => whnf)) | (apply load_at; (conv => lhs; rw [add_plain, add_plain]); (with_reducible assumption); rfl; (conv => whnf)) | (apply loads_at; (conv => lhs; whnf); (with_reducible assumption); rfl; (conv => whnf)) | (refine ⟨⟨by omega, by omega⟩, ?_⟩; (conv => whnf))))
      exact ⟨rfl, D2, hM5, hD2⟩
    · have he : e2 = 0 := by
        have h : (e2 != 0) = false := h
        simpa using h
      rw [if_pos he] at hrs
      ((conv => whnf); repeat (first | (apply load_at; (conv => lhs; whnf); (with_reducible assumption); rfl; (conv => whnf)) | (apply load_at; (conv => lhs; rw [add_plain, add_plain]); (with_reducible assumption); rfl; (conv => whnf)) | (apply loads_at; (conv => lhs; whnf); (with_reducible assumption); rfl; (conv => whnf)) | (refine ⟨⟨by omega, by omega⟩, ?_⟩; (conv => whnf))))
      refine ⟨k - 1, by omega, i + 1, s2, D2, by omega, ?_, hM5, hD2, by omega, hrs⟩
      rw [← wrap_succ (j := i) (by omega)]
      rfl
  · have hi : i = ps.length := by have := of_decide_eq_false h; omega
    subst hi
    rw [List.drop_length] at hrs
    ((conv => whnf); repeat (first | (apply load_at; (conv => lhs; whnf); (with_reducible assumption); rfl; (conv => whnf)) | (apply load_at; (conv => lhs; rw [add_plain, add_plain]); (with_reducible assumption); rfl; (conv => whnf)) | (apply loads_at; (conv => lhs; whnf); (with_reducible assumption); rfl; (conv => whnf)) | (refine ⟨⟨by omega, by omega⟩, ?_⟩; (conv => whnf))))
    refine call_of (flush hM.inn hD1) ?_
    rintro v F4 ⟨rfl, D2, hM4, hD2⟩
    rw [hrs]
    ((conv => whnf); repeat (first | (apply load_at; (conv => lhs; whnf); (with_reducible assumption); rfl; (conv => whnf)) | (apply load_at; (conv => lhs; rw [add_plain, add_plain]); (with_reducible assumption); rfl; (conv => whnf)) | (apply loads_at; (conv => lhs; whnf); (with_reducible assumption); rfl; (conv => whnf)) | (refine ⟨⟨by omega, by omega⟩, ?_⟩; (conv => whnf))))
    exact ⟨rfl, D2, hM.trans hM4, hD2⟩
/-- What stands at the mark. -/
def noteB (n q : Int) : List UInt8 := packB n q (List.replicate 240 0)
theorem noteB_len {n q : Int} (h : secR n q = true) : (noteB n q).length = 256 := packB_len (by unfold packY; rw [h]; decide)
theorem notePiece (n q : Int) (F : Heap) (hN : NibAt F) : FnK Tryz.prog 67 #[.agg #[.int .i64 n, .int .i64 q]] F (fun v F' => (∃ A c, v = .tuple #[.agg #[.int .i64 0, .slice A (noteB n q).length c], .int .i64 (packE n q (List.replicate 240 0))] ∧ (noteB n q).length ≤ c ∧ RowAt F' A (bytesOf (noteB n q)) ∧ (∀ a, A = some a → F a.block = none)) ∧ Ext F F') := by
  have h1 := fun A c F h hN => pack n q (List.replicate 240 0) A c F h (by rw [List.length_replicate]; decide) hN
  have h2 := fun F => markI F
  unfold noteB
  generalize packB n q (List.replicate 240 0) = nb at h1
  generalize packE n q (List.replicate 240 0) = e at h1
  (refine fn_walk tab_ok Tryz.func67 rfl rfl rfl rfl ?_; (conv => whnf))
  refine new_step (.cells #[.int .i64 n, .int .i64 q] 88) rfl fun t h0_t => ?_
  have hE_t := Ext.new h0_t (.cells #[.int .i64 n, .int .i64 q] 88)
  have hB_t := Heap.put_same F t (.cells #[.int .i64 n, .int .i64 q] 88)
  generalize F.put t _ = F1 at hE_t hB_t ⊢
  ((conv => whnf); repeat (first | (apply load_at; (conv => lhs; whnf); (with_reducible assumption); rfl; (conv => whnf)) | (apply load_at; (conv => lhs; rw [add_plain, add_plain]); (with_reducible assumption); rfl; (conv => whnf)) | (apply loads_at; (conv => lhs; whnf); (with_reducible assumption); rfl; (conv => whnf)) | (refine ⟨⟨by omega, by omega⟩, ?_⟩; (conv => whnf))))
  refine new_step (.cells #[.int .i64 0, .slice none 0 0] 117) rfl fun u h0_u => ?_
  have hE_u := Ext.new h0_u (.cells #[.int .i64 0, .slice none 0 0] 117)
  have hB_u := Heap.put_same F1 u (.cells #[.int .i64 0, .slice none 0 0] 117)
  generalize F1.put u _ = F2 at hE_u hB_u ⊢
  have hB2 := hE_u _ _ hB_t
  have hE2 := hE_t.trans hE_u
  ((conv => whnf); repeat (first | (apply load_at; (conv => lhs; whnf); (with_reducible assumption); rfl; (conv => whnf)) | (apply load_at; (conv => lhs; rw [add_plain, add_plain]); (with_reducible assumption); rfl; (conv => whnf)) | (apply loads_at; (conv => lhs; whnf); (with_reducible assumption); rfl; (conv => whnf)) | (refine ⟨⟨by omega, by omega⟩, ?_⟩; (conv => whnf))))
  refine draw_tree tab_ok (by kernel_rfl) [] (DT.row [0, 1, 2, 3, 4, 5, 6, 7, 8, 9, 10] .nil) (by kernel_rfl) ?_
  ((conv => whnf); repeat (first | (apply load_at; (conv => lhs; whnf); (with_reducible assumption); rfl; (conv => whnf)) | (apply load_at; (conv => lhs; rw [add_plain, add_plain]); (with_reducible assumption); rfl; (conv => whnf)) | (apply loads_at; (conv => lhs; whnf); (with_reducible assumption); rfl; (conv => whnf)) | (refine ⟨⟨by omega, by omega⟩, ?_⟩; (conv => whnf))))
  refine make_one tab_ok (z0 := .int .u8 0) 240 240 rfl rfl rfl rfl rfl ⟨rfl, by decide, _, rfl, rfl⟩ (by decide) (by decide) fun g h0_g => ?_
  have hE_g := Ext.new h0_g (.cells (List.replicate 240 (Value.int .u8 0)).toArray 5)
  have hB_g := Heap.put_same F2 g (.cells (List.replicate 240 (Value.int .u8 0)).toArray 5)
  generalize F2.put g _ = F3 at hE_g hB_g ⊢
  ((conv => whnf); repeat (first | (apply load_at; (conv => lhs; whnf); (with_reducible assumption); rfl; (conv => whnf)) | (apply load_at; (conv => lhs; rw [add_plain, add_plain]); (with_reducible assumption); rfl; (conv => whnf)) | (apply loads_at; (conv => lhs; whnf); (with_reducible assumption); rfl; (conv => whnf)) | (refine ⟨⟨by omega, by omega⟩, ?_⟩; (conv => whnf))))
  refine ⟨hE_g, ?_⟩
  have hrow : RowAt F3 (some ⟨g, 0, none⟩) (bytesOf (List.replicate 240 0)) := by
    have := row_blk hB_g
    rw [List.toList_toArray, zeros_bytes] at this
    exact this
  ((conv => whnf); repeat (first | (apply load_at; (conv => lhs; whnf); (with_reducible assumption); rfl; (conv => whnf)) | (apply load_at; (conv => lhs; rw [add_plain, add_plain]); (with_reducible assumption); rfl; (conv => whnf)) | (apply loads_at; (conv => lhs; whnf); (with_reducible assumption); rfl; (conv => whnf)) | (refine ⟨⟨by omega, by omega⟩, ?_⟩; (conv => whnf))))
  refine ⟨hE_g, ?_⟩
  ((conv => whnf); repeat (first | (apply load_at; (conv => lhs; whnf); (with_reducible assumption); rfl; (conv => whnf)) | (apply load_at; (conv => lhs; rw [add_plain, add_plain]); (with_reducible assumption); rfl; (conv => whnf)) | (apply loads_at; (conv => lhs; whnf); (with_reducible assumption); rfl; (conv => whnf)) | (refine ⟨⟨by omega, by omega⟩, ?_⟩; (conv => whnf))))
  refine call_of (h1 (some ⟨g, 0, none⟩) 240 F3 hrow (hN.mono (hE2.trans hE_g))) ?_
  rintro v F4 ⟨w, rfl, ⟨A, c, rfl, hc, hr, hf⟩, hE4⟩
  have hE5 := hE2.trans (hE_g.trans hE4)
  have hB4 := hE4 _ _ (hE_g _ _ hB_u)
  have hX := hE_g.trans hE4
  ((conv => whnf); repeat (first | (apply load_at; (conv => lhs; whnf); (with_reducible assumption); rfl; (conv => whnf)) | (apply load_at; (conv => lhs; rw [add_plain, add_plain]); (with_reducible assumption); rfl; (conv => whnf)) | (apply loads_at; (conv => lhs; whnf); (with_reducible assumption); rfl; (conv => whnf)) | (refine ⟨⟨by omega, by omega⟩, ?_⟩; (conv => whnf))))
  refine ⟨hX, ?_⟩
  ((conv => whnf); repeat (first | (apply load_at; (conv => lhs; whnf); (with_reducible assumption); rfl; (conv => whnf)) | (apply load_at; (conv => lhs; rw [add_plain, add_plain]); (with_reducible assumption); rfl; (conv => whnf)) | (apply loads_at; (conv => lhs; whnf); (with_reducible assumption); rfl; (conv => whnf)) | (refine ⟨⟨by omega, by omega⟩, ?_⟩; (conv => whnf))))
  refine call_of (h2 F4) ?_
  rintro v F4 ⟨rfl, rfl⟩
  refine short [2, 4, 5, 15] [.pointer (some ⟨u, 0, none⟩), .slice A nb.length c, .int .i64 e, .int .i64 0] rfl fun ρ => ?_
  ((conv => whnf); repeat (first | (apply load_at; (conv => lhs; whnf); (with_reducible assumption); rfl; (conv => whnf)) | (apply load_at; (conv => lhs; rw [add_plain, add_plain]); (with_reducible assumption); rfl; (conv => whnf)) | (apply loads_at; (conv => lhs; whnf); (with_reducible assumption); rfl; (conv => whnf)) | (refine ⟨⟨by omega, by omega⟩, ?_⟩; (conv => whnf))))
  refine store_step u 0 _ (pcC ⟨0, nb, A, c⟩).toArray rfl hB4 rfl rfl (.inl (Nat.le_refl 0)) (pc_one ⟨0, nb, A, c⟩) ?_
  have hB6 := Heap.put_same F4 u (pcO ⟨0, nb, A, c⟩)
  have h0u : F u = none := hE_t.none h0_u
  have hE6 : Ext F (F4.put u (pcO ⟨0, nb, A, c⟩)) := hE5.put h0u _
  have hr6 : RowAt (F4.put u (pcO ⟨0, nb, A, c⟩)) A (bytesOf nb) := by
    refine rowAt_keepq (q := u) hr (fun z o h h' => ?_) fun a ha e => ?_
    · rw [Heap.put_other _ _ (fun e => h' (by rw [e]))]
      exact h
    · have := hf a ha
      rw [e, hE_g _ _ hB_u] at this
      cases this
  generalize F4.put u _ = F6 at hB6 hE6 hr6 ⊢
  ((conv => whnf); repeat (first | (apply load_at; (conv => lhs; whnf); (with_reducible assumption); rfl; (conv => whnf)) | (apply load_at; (conv => lhs; rw [add_plain, add_plain]); (with_reducible assumption); rfl; (conv => whnf)) | (apply loads_at; (conv => lhs; whnf); (with_reducible assumption); rfl; (conv => whnf)) | (refine ⟨⟨by omega, by omega⟩, ?_⟩; (conv => whnf))))
  refine res_cells tab_ok rfl rfl hB6 rfl ?_
  ((conv => whnf); repeat (first | (apply load_at; (conv => lhs; whnf); (with_reducible assumption); rfl; (conv => whnf)) | (apply load_at; (conv => lhs; rw [add_plain, add_plain]); (with_reducible assumption); rfl; (conv => whnf)) | (apply loads_at; (conv => lhs; whnf); (with_reducible assumption); rfl; (conv => whnf)) | (refine ⟨⟨by omega, by omega⟩, ?_⟩; (conv => whnf))))
  refine ⟨⟨A, c, rfl, hc, hr6, fun a ha => ?_⟩, hE6⟩
  exact hE2.none (hE_g.none (hf a ha))
end Go.Proofs.YtmpiggcooboenaaGreatDoor.Al
/- Logs: redo.mark, redo.Format, redo.read. -/
namespace Go.Proofs.YtmpiggcooboenaaGreatDoor.Al
open Go Go.Al Go.Proofs Go.RowKit
set_option maxHeartbeats 8000000
set_option maxRecDepth 100000
set_option linter.unusedVariables false
set_option linter.unusedSimpArgs false
/-- What is new. -/
abbrev newH (F F' : Heap) : Heap := gain emptyH F F'
theorem newH_ext (F F' : Heap) : Ext (newH F F') F' := fun c o hc => by
  unfold newH gain at hc
  split at hc
  · exact hc
  · cases hc
theorem newH_apart {D F : Heap} (F' : Heap) (hD : Ext D F) : Apart D (newH F F') := fun c hc => by
  cases e : D c with
  | none => exact absurd e hc
  | some o => exact gain_old (hD _ _ e)
theorem newH_row {F F' : Heap} {A : Option Addr} {vs : List Value} (hr : RowAt F' A vs) (h : ∀ a, A = some a → F a.block = none) : RowAt (newH F F') A vs := rowAt_gain hr h
theorem new_row {F F' : Heap} {b : Nat} {cs : Array Value} {e : TypeId} (h : F' b = some (.cells cs e)) (hn : F b = none) : RowAt (newH F F') (some ⟨b, 0, none⟩) cs.toList := newH_row (row_blk h) fun a ha => by
  injection ha with ha
  subst ha
  exact hn
def markS {α : Type} (o : DOps α) (a : α) (n q : Int) : α × Int := if secR n q = true then runW o a [(0, noteB n q)] else (a, 1)
theorem redoMark {D F : Heap} {b : Nat} {s : DS} (hE : Ext D F) (hD : Dk D b s) (n q : Int) (hN : NibAt F) (hw : s.writes + 1 < 1000000000) :
    FnK Tryz.prog 40 #[.pointer (some ⟨b, 0, none⟩), .agg #[.int .i64 n, .int .i64 q]] F (fun v F' => v = .int .i64 (markS dsO s n q).2 ∧ ∃ D', Moves D F D' F' ∧ Dk D' b (markS dsO s n q).1) := by
  have h1 := fun F hN => notePiece n q F hN
  have hE' : packE n q (List.replicate 240 0) = if secR n q = true then 0 else 1 := by
    unfold packE packY
    rw [show ((List.replicate 240 (0 : UInt8)).length == 240) = true by rw [List.length_replicate]; decide, Bool.and_true]
  have hM : markS dsO s n q = if secR n q = true then runW dsO s [(0, noteB n q)] else (s, 1) := rfl
  have hnl : (noteB n q).length ≤ 900000 := by
    unfold noteB packB
    split
    · next h => have := packB_len h; unfold packB at this; rw [if_pos h] at this; omega
    · exact Nat.zero_le _
  generalize markS dsO s n q = ms at hM
  generalize noteB n q = nb at h1 hM hnl
  generalize packE n q (List.replicate 240 0) = e at h1 hE'
  generalize secR n q = z at hE' hM
  (refine fn_walk tab_ok Tryz.func40 rfl rfl rfl rfl ?_; (conv => whnf))
  refine new_step (.cells #[.int .i64 n, .int .i64 q] 88) rfl fun t h0_t => ?_
  have hE_t := Ext.new h0_t (.cells #[.int .i64 n, .int .i64 q] 88)
  have hB_t := Heap.put_same F t (.cells #[.int .i64 n, .int .i64 q] 88)
  generalize F.put t _ = F1 at hE_t hB_t ⊢
  ((conv => whnf); repeat (first | (apply load_at; (conv => lhs; whnf); (with_reducible assumption); rfl; (conv => whnf)) | (apply load_at; (conv => lhs; rw [add_plain, add_plain]); (with_reducible assumption); rfl; (conv => whnf)) | (apply loads_at; (conv => lhs; whnf); (with_reducible assumption); rfl; (conv => whnf)) | (refine ⟨⟨by omega, by omega⟩, ?_⟩; (conv => whnf))))
  refine call_of (h1 F1 (hN.mono hE_t)) ?_
  rintro v F2 ⟨⟨A, c, rfl, hc, hr, hf⟩, hE2⟩
  have hE02 := hE_t.trans hE2
  have hf0 : ∀ a, A = some a → F a.block = none := fun a ha => hE_t.none (hf a ha)
  ((conv => whnf); repeat (first | (apply load_at; (conv => lhs; whnf); (with_reducible assumption); rfl; (conv => whnf)) | (apply load_at; (conv => lhs; rw [add_plain, add_plain]); (with_reducible assumption); rfl; (conv => whnf)) | (apply loads_at; (conv => lhs; whnf); (with_reducible assumption); rfl; (conv => whnf)) | (refine ⟨⟨by omega, by omega⟩, ?_⟩; (conv => whnf))))
  refine new_step (.cells #[.int .i64 0, .slice none 0 0] 117) rfl fun u h0_u => ?_
  have hE_u := Ext.new h0_u (.cells #[.int .i64 0, .slice none 0 0] 117)
  have hB_u := Heap.put_same F2 u (.cells #[.int .i64 0, .slice none 0 0] 117)
  generalize F2.put u _ = F3 at hE_u hB_u ⊢
  ((conv => whnf); repeat (first | (apply load_at; (conv => lhs; whnf); (with_reducible assumption); rfl; (conv => whnf)) | (apply load_at; (conv => lhs; rw [add_plain, add_plain]); (with_reducible assumption); rfl; (conv => whnf)) | (apply loads_at; (conv => lhs; whnf); (with_reducible assumption); rfl; (conv => whnf)) | (refine ⟨⟨by omega, by omega⟩, ?_⟩; (conv => whnf))))
  refine store_step u 0 _ (pcC ⟨0, nb, A, c⟩).toArray rfl hB_u rfl rfl (.inl (Nat.le_refl 0)) (pc_one ⟨0, nb, A, c⟩) ?_
  have hB4 := Heap.put_same F3 u (pcO ⟨0, nb, A, c⟩)
  have hE4 : Ext F2 (F3.put u (pcO ⟨0, nb, A, c⟩)) := hE_u.put h0_u _
  generalize F3.put u _ = F4 at hB4 hE4 ⊢
  have hr4 := hr.mono hE4
  have hE04 := hE02.trans hE4
  refine short [0, 5, 11] [.pointer (some ⟨b, 0, none⟩), .pointer (some ⟨u, 0, none⟩), .int .i64 e] rfl fun ρ => ?_
  ((conv => whnf); repeat (first | (apply load_at; (conv => lhs; whnf); (with_reducible assumption); rfl; (conv => whnf)) | (apply load_at; (conv => lhs; rw [add_plain, add_plain]); (with_reducible assumption); rfl; (conv => whnf)) | (apply loads_at; (conv => lhs; whnf); (with_reducible assumption); rfl; (conv => whnf)) | (refine ⟨⟨by omega, by omega⟩, ?_⟩; (conv => whnf))))
  cases z with
  | false =>
    rw [if_neg (by decide)] at hE' hM
    subst hE' hM
    ((conv => whnf); repeat (first | (apply load_at; (conv => lhs; whnf); (with_reducible assumption); rfl; (conv => whnf)) | (apply load_at; (conv => lhs; rw [add_plain, add_plain]); (with_reducible assumption); rfl; (conv => whnf)) | (apply loads_at; (conv => lhs; whnf); (with_reducible assumption); rfl; (conv => whnf)) | (refine ⟨⟨by omega, by omega⟩, ?_⟩; (conv => whnf))))
    exact ⟨rfl, D, Moves.ext hE hE04, hD⟩
  | true =>
    rw [if_pos rfl] at hE' hM
    subst hE' hM
    ((conv => whnf); repeat (first | (apply load_at; (conv => lhs; whnf); (with_reducible assumption); rfl; (conv => whnf)) | (apply load_at; (conv => lhs; rw [add_plain, add_plain]); (with_reducible assumption); rfl; (conv => whnf)) | (apply loads_at; (conv => lhs; whnf); (with_reducible assumption); rfl; (conv => whnf)) | (refine ⟨⟨by omega, by omega⟩, ?_⟩; (conv => whnf))))
    refine new_step (.cells (rowS pcC [⟨0, nb, A, c⟩]).toArray 117) rfl fun g h0_g => ?_
    have hE_g := Ext.new h0_g (.cells (rowS pcC [⟨0, nb, A, c⟩]).toArray 117)
    have hB_g := Heap.put_same F4 g (.cells (rowS pcC [⟨0, nb, A, c⟩]).toArray 117)
    generalize F4.put g _ = F5 at hE_g hB_g ⊢
    have hr5 := hr4.mono hE_g
    have hE05 := hE04.trans hE_g
    have hg0 : F g = none := hE04.none h0_g
    refine call_of (redoWrite (hE.trans hE05) hD (newH_ext F F5) (newH_apart F5 hE) [⟨0, nb, A, c⟩] (some ⟨g, 0, none⟩) 1 (new_row hB_g hg0) (fun p hp => ?_) (Nat.le_of_ble_eq_true rfl) hw) ?_
    · rw [List.mem_singleton] at hp
      subst hp
      exact ⟨newH_row hr5 hf0, hnl⟩
    rintro v F6 ⟨rfl, D', hM6, hD6⟩
    ((conv => whnf); repeat (first | (apply load_at; (conv => lhs; whnf); (with_reducible assumption); rfl; (conv => whnf)) | (apply load_at; (conv => lhs; rw [add_plain, add_plain]); (with_reducible assumption); rfl; (conv => whnf)) | (apply loads_at; (conv => lhs; whnf); (with_reducible assumption); rfl; (conv => whnf)) | (refine ⟨⟨by omega, by omega⟩, ?_⟩; (conv => whnf))))
    exact ⟨rfl, D', (Moves.ext hE hE05).trans hM6, hD6⟩
theorem redoFormat {D F : Heap} {b : Nat} {s : DS} (hE : Ext D F) (hD : Dk D b s) (hN : NibAt F) (hw : s.writes + 1 < 1000000000) :
    FnK Tryz.prog 24 #[.pointer (some ⟨b, 0, none⟩)] F (fun v F' => v = .int .i64 (runW dsO s [(0, noteB 0 1)]).2 ∧ ∃ D', Moves D F D' F' ∧ Dk D' b (runW dsO s [(0, noteB 0 1)]).1) := by
  have h1 := redoMark hE hD 0 1 hN hw
  have e : markS dsO s 0 1 = runW dsO s [(0, noteB 0 1)] := if_pos (by decide)
  rw [e] at h1
  generalize runW dsO s [(0, noteB 0 1)] = ms at h1
  (refine fn_walk tab_ok Tryz.func24 rfl rfl rfl rfl ?_; (conv => whnf))
  refine call_of h1 ?_
  rintro v F1 ⟨rfl, D', hM, hD'⟩
  ((conv => whnf); repeat (first | (apply load_at; (conv => lhs; whnf); (with_reducible assumption); rfl; (conv => whnf)) | (apply load_at; (conv => lhs; rw [add_plain, add_plain]); (with_reducible assumption); rfl; (conv => whnf)) | (apply loads_at; (conv => lhs; whnf); (with_reducible assumption); rfl; (conv => whnf)) | (refine ⟨⟨by omega, by omega⟩, ?_⟩; (conv => whnf))))
  exact ⟨rfl, D', hM, hD'⟩
/-- What stands at the mark of a disk. -/
def rdN {α : Type} (o : DOps α) (a : α) : Int × Int × Int := if o.rdE a 0 = 0 then (unP (o.rdL a 0), unQ (o.rdL a 0), unE (o.rdL a 0)) else (0, 0, o.rdE a 0)
theorem redoRead {D F : Heap} {b : Nat} {s : DS} (hE : Ext D F) (hD : Dk D b s) (hN : NibAt F) :
    FnK Tryz.prog 41 #[.pointer (some ⟨b, 0, none⟩)] F (fun v F' => v = .tuple #[.agg #[.int .i64 (rdN dsO s).1, .int .i64 (rdN dsO s).2.1], .int .i64 (rdN dsO s).2.2] ∧ Ext F F') := by
  have h1 := fun F hE => read (F := F) hE hD 0
  have hl := read_len hD 0
  have h2 := fun A c F hr hc hN => unpack (readL s 0) A c F hr (by omega) hc hN
  have h3 := fun F => markI F
  have hR : rdN dsO s = if readE s 0 = 0 then (unP (readL s 0), unQ (readL s 0), unE (readL s 0)) else (0, 0, readE s 0) := rfl
  generalize rdN dsO s = rn at hR
  generalize unP (readL s 0) = p at h2 hR
  generalize unQ (readL s 0) = q at h2 hR
  generalize unE (readL s 0) = e at h2 hR
  generalize unD (readL s 0) = d at h2
  generalize readL s 0 = l at h1 h2
  generalize readE s 0 = re at h1 hR
  (refine fn_walk tab_ok Tryz.func41 rfl rfl rfl rfl ?_; (conv => whnf))
  refine new_step (.cells #[.int .i64 0, .int .i64 0] 88) rfl fun t h0_t => ?_
  have hE_t := Ext.new h0_t (.cells #[.int .i64 0, .int .i64 0] 88)
  have hB_t := Heap.put_same F t (.cells #[.int .i64 0, .int .i64 0] 88)
  generalize F.put t _ = F1 at hE_t hB_t ⊢
  ((conv => whnf); repeat (first | (apply load_at; (conv => lhs; whnf); (with_reducible assumption); rfl; (conv => whnf)) | (apply load_at; (conv => lhs; rw [add_plain, add_plain]); (with_reducible assumption); rfl; (conv => whnf)) | (apply loads_at; (conv => lhs; whnf); (with_reducible assumption); rfl; (conv => whnf)) | (refine ⟨⟨by omega, by omega⟩, ?_⟩; (conv => whnf))))
  refine call_of (h3 F1) ?_
  rintro v F1 ⟨rfl, rfl⟩
  ((conv => whnf); repeat (first | (apply load_at; (conv => lhs; whnf); (with_reducible assumption); rfl; (conv => whnf)) | (apply load_at; (conv => lhs; rw [add_plain, add_plain]); (with_reducible assumption); rfl; (conv => whnf)) | (apply loads_at; (conv => lhs; whnf); (with_reducible assumption); rfl; (conv => whnf)) | (refine ⟨⟨by omega, by omega⟩, ?_⟩; (conv => whnf))))
  refine call_of (h1 F1 (hE.trans hE_t)) ?_
  rintro v F2 ⟨u, rfl, ⟨A, c, rfl, hc, hr, hf⟩, hE2⟩
  have hE02 := hE_t.trans hE2
  have hB2 := hE2 _ _ hB_t
  have h0t : F t = none := h0_t
  refine short [2, 12] [.pointer (some ⟨t, 0, none⟩), .tuple #[.slice A l.length c, .int .i64 re]] rfl fun ρ => ?_
  ((conv => whnf); repeat (first | (apply load_at; (conv => lhs; whnf); (with_reducible assumption); rfl; (conv => whnf)) | (apply load_at; (conv => lhs; rw [add_plain, add_plain]); (with_reducible assumption); rfl; (conv => whnf)) | (apply loads_at; (conv => lhs; whnf); (with_reducible assumption); rfl; (conv => whnf)) | (refine ⟨⟨by omega, by omega⟩, ?_⟩; (conv => whnf))))
  refine cond_split (fun h => ?_) (fun h => ?_)
  · have he : ¬ re = 0 := by
      have h : (re != 0) = true := h
      simpa using h
    rw [if_neg he] at hR
    subst hR
    ((conv => whnf); repeat (first | (apply load_at; (conv => lhs; whnf); (with_reducible assumption); rfl; (conv => whnf)) | (apply load_at; (conv => lhs; rw [add_plain, add_plain]); (with_reducible assumption); rfl; (conv => whnf)) | (apply loads_at; (conv => lhs; whnf); (with_reducible assumption); rfl; (conv => whnf)) | (refine ⟨⟨by omega, by omega⟩, ?_⟩; (conv => whnf))))
    refine store_step t 0 _ #[.int .i64 0, .int .i64 0] rfl hB2 rfl rfl (.inl (Nat.le_refl 0)) (two_ints _ _) ?_
    have hB3 := Heap.put_same F2 t (.cells #[.int .i64 0, .int .i64 0] 88)
    have hE3 : Ext F (F2.put t (.cells #[.int .i64 0, .int .i64 0] 88)) := hE02.put h0t _
    generalize F2.put t _ = F3 at hB3 hE3 ⊢
    ((conv => whnf); repeat (first | (apply load_at; (conv => lhs; whnf); (with_reducible assumption); rfl; (conv => whnf)) | (apply load_at; (conv => lhs; rw [add_plain, add_plain]); (with_reducible assumption); rfl; (conv => whnf)) | (apply loads_at; (conv => lhs; whnf); (with_reducible assumption); rfl; (conv => whnf)) | (refine ⟨⟨by omega, by omega⟩, ?_⟩; (conv => whnf))))
    refine res_cells tab_ok rfl rfl hB3 rfl ?_
    ((conv => whnf); repeat (first | (apply load_at; (conv => lhs; whnf); (with_reducible assumption); rfl; (conv => whnf)) | (apply load_at; (conv => lhs; rw [add_plain, add_plain]); (with_reducible assumption); rfl; (conv => whnf)) | (apply loads_at; (conv => lhs; whnf); (with_reducible assumption); rfl; (conv => whnf)) | (refine ⟨⟨by omega, by omega⟩, ?_⟩; (conv => whnf))))
    exact ⟨rfl, hE3⟩
  · have he : re = 0 := by
      have h : (re != 0) = false := h
      simpa using h
    rw [if_pos he] at hR
    subst hR
    ((conv => whnf); repeat (first | (apply load_at; (conv => lhs; whnf); (with_reducible assumption); rfl; (conv => whnf)) | (apply load_at; (conv => lhs; rw [add_plain, add_plain]); (with_reducible assumption); rfl; (conv => whnf)) | (apply loads_at; (conv => lhs; whnf); (with_reducible assumption); rfl; (conv => whnf)) | (refine ⟨⟨by omega, by omega⟩, ?_⟩; (conv => whnf))))
    refine call_of (h2 A c F2 hr hc (hN.mono hE02)) ?_
    rintro v F3 ⟨w, rfl, _, hE3⟩
    have hE03 := hE02.trans hE3
    have hB3 := hE3 _ _ hB2
    ((conv => whnf); repeat (first | (apply load_at; (conv => lhs; whnf); (with_reducible assumption); rfl; (conv => whnf)) | (apply load_at; (conv => lhs; rw [add_plain, add_plain]); (with_reducible assumption); rfl; (conv => whnf)) | (apply loads_at; (conv => lhs; whnf); (with_reducible assumption); rfl; (conv => whnf)) | (refine ⟨⟨by omega, by omega⟩, ?_⟩; (conv => whnf))))
    refine store_step t 0 _ #[.int .i64 p, .int .i64 q] rfl hB3 rfl rfl (.inl (Nat.le_refl 0)) (two_ints _ _) ?_
    have hB4 := Heap.put_same F3 t (.cells #[.int .i64 p, .int .i64 q] 88)
    have hE4 : Ext F (F3.put t (.cells #[.int .i64 p, .int .i64 q] 88)) := hE03.put h0t _
    generalize F3.put t _ = F4 at hB4 hE4 ⊢
    ((conv => whnf); repeat (first | (apply load_at; (conv => lhs; whnf); (with_reducible assumption); rfl; (conv => whnf)) | (apply load_at; (conv => lhs; rw [add_plain, add_plain]); (with_reducible assumption); rfl; (conv => whnf)) | (apply loads_at; (conv => lhs; whnf); (with_reducible assumption); rfl; (conv => whnf)) | (refine ⟨⟨by omega, by omega⟩, ?_⟩; (conv => whnf))))
    refine res_cells tab_ok rfl rfl hB4 rfl ?_
    ((conv => whnf); repeat (first | (apply load_at; (conv => lhs; whnf); (with_reducible assumption); rfl; (conv => whnf)) | (apply load_at; (conv => lhs; rw [add_plain, add_plain]); (with_reducible assumption); rfl; (conv => whnf)) | (apply loads_at; (conv => lhs; whnf); (with_reducible assumption); rfl; (conv => whnf)) | (refine ⟨⟨by omega, by omega⟩, ?_⟩; (conv => whnf))))
    exact ⟨rfl, hE4⟩
end Go.Proofs.YtmpiggcooboenaaGreatDoor.Al
/- Logs: redo.slot, redo.whole. -/
namespace Go.Proofs.YtmpiggcooboenaaGreatDoor.Al
open Go Go.Al Go.Proofs Go.RowKit
set_option maxHeartbeats 8000000
set_option maxRecDepth 100000
set_option linter.unusedVariables false
set_option linter.unusedSimpArgs false
/-- Whether a slot is one of a note's. -/
def slotY {α : Type} (o : DOps α) (a : α) (q i : Int) : Bool := isPg (o.sz a) i && ((o.rdE a (slotI (o.sz a) i) == 0) && ((unE (o.rdL a (slotI (o.sz a) i)) == 0) && ((unQ (o.rdL a (slotI (o.sz a) i)) == q) && isPg (o.sz a) (unP (o.rdL a (slotI (o.sz a) i))))))
def slotP {α : Type} (o : DOps α) (a : α) (i : Int) : Int × List UInt8 := (homeI (o.sz a) (unP (o.rdL a (slotI (o.sz a) i))), o.rdL a (slotI (o.sz a) i))
theorem redoSlot {D F : Heap} {b : Nat} {s : DS} (hE : Ext D F) (hD : Dk D b s) (hN : NibAt F) (n q i : Int) :
    FnK Tryz.prog 69 #[.pointer (some ⟨b, 0, none⟩), .agg #[.int .i64 n, .int .i64 q], .int .i64 i] F (fun v F' => (∃ p : PcR, v = .tuple #[.agg (pcC p).toArray, .bool (slotY dsO s q i)] ∧ PcOk F' p ∧ (∀ a, p.A = some a → F a.block = none) ∧ (slotY dsO s q i = true → pcW p = slotP dsO s i ∧ p.l.length ≤ p.c)) ∧ Ext F F') := by
  have hwf := hD.1
  have hsz := hwf.sz
  have k1 := fun F hE => dk_size (F := F) hE hD
  have k2 := fun F => slot s.size i F
  have k3 := fun F hE => read (F := F) hE hD (slotI s.size i)
  have hl := read_len hD (slotI s.size i)
  have k4 := fun A c F hr hc hN => unpack (readL s (slotI s.size i)) A c F hr (by omega) hc hN
  have k5 := fun F => home s.size (unP (readL s (slotI s.size i))) F
  have hY : slotY dsO s q i = (isPg s.size i && ((readE s (slotI s.size i) == 0) && ((unE (readL s (slotI s.size i)) == 0) && ((unQ (readL s (slotI s.size i)) == q) && isPg s.size (unP (readL s (slotI s.size i))))))) := rfl
  have hP : slotP dsO s i = (homeI s.size (unP (readL s (slotI s.size i))), readL s (slotI s.size i)) := rfl
  generalize slotY dsO s q i = y at hY
  generalize slotP dsO s i = sp at hP
  generalize slotI s.size i = at_ at k2 k3 hl k4 k5 hY hP
  generalize isPg s.size (unP (readL s at_)) = z2 at k5 hY
  generalize homeI s.size (unP (readL s at_)) = hm at k5 hP
  generalize unP (readL s at_) = up at k4 k5
  generalize unQ (readL s at_) = uq at k4 hY
  generalize unE (readL s at_) = ue at k4 hY
  generalize unD (readL s at_) = ud at k4
  generalize readL s at_ = l at k3 k4 hl hP
  generalize readE s at_ = re at k3 hY
  generalize isPg s.size i = z1 at k2 hY
  (refine fn_walk tab_ok Tryz.func69 rfl rfl rfl rfl ?_; (conv => whnf))
  refine new_step (.cells #[.int .i64 n, .int .i64 q] 88) rfl fun t h0_t => ?_
  have hE_t := Ext.new h0_t (.cells #[.int .i64 n, .int .i64 q] 88)
  have hB_t := Heap.put_same F t (.cells #[.int .i64 n, .int .i64 q] 88)
  generalize F.put t _ = F1 at hE_t hB_t ⊢
  ((conv => whnf); repeat (first | (apply load_at; (conv => lhs; whnf); (with_reducible assumption); rfl; (conv => whnf)) | (apply load_at; (conv => lhs; rw [add_plain, add_plain]); (with_reducible assumption); rfl; (conv => whnf)) | (apply loads_at; (conv => lhs; whnf); (with_reducible assumption); rfl; (conv => whnf)) | (refine ⟨⟨by omega, by omega⟩, ?_⟩; (conv => whnf))))
  refine new_step (.cells #[.int .i64 0, .slice none 0 0] 117) rfl fun u h0_u => ?_
  have hE_u := Ext.new h0_u (.cells #[.int .i64 0, .slice none 0 0] 117)
  have hB_u := Heap.put_same F1 u (.cells #[.int .i64 0, .slice none 0 0] 117)
  generalize F1.put u _ = F2 at hE_u hB_u ⊢
  have hB2 := hE_u _ _ hB_t
  have hE2 := hE_t.trans hE_u
  have h0u : F u = none := hE_t.none h0_u
  ((conv => whnf); repeat (first | (apply load_at; (conv => lhs; whnf); (with_reducible assumption); rfl; (conv => whnf)) | (apply load_at; (conv => lhs; rw [add_plain, add_plain]); (with_reducible assumption); rfl; (conv => whnf)) | (apply loads_at; (conv => lhs; whnf); (with_reducible assumption); rfl; (conv => whnf)) | (refine ⟨⟨by omega, by omega⟩, ?_⟩; (conv => whnf))))
  refine call_of (k1 F2 (hE.trans hE2)) ?_
  rintro v F2 ⟨rfl, rfl⟩
  ((conv => whnf); repeat (first | (apply load_at; (conv => lhs; whnf); (with_reducible assumption); rfl; (conv => whnf)) | (apply load_at; (conv => lhs; rw [add_plain, add_plain]); (with_reducible assumption); rfl; (conv => whnf)) | (apply loads_at; (conv => lhs; whnf); (with_reducible assumption); rfl; (conv => whnf)) | (refine ⟨⟨by omega, by omega⟩, ?_⟩; (conv => whnf))))
  refine call_of (k2 F2) ?_
  rintro v F3 ⟨rfl, hE3⟩
  have hE03 := hE2.trans hE3
  have hBt3 := hE3 _ _ hB2
  have hBu3 := hE3 _ _ hB_u
  have bad : ∀ F', Ext F F' → F' u = some (pcO ⟨0, [], none, 0⟩) → True := fun _ _ _ => trivial
  cases z1 with
  | false =>
    obtain rfl : y = false := hY
    ((conv => whnf); repeat (first | (apply load_at; (conv => lhs; whnf); (with_reducible assumption); rfl; (conv => whnf)) | (apply load_at; (conv => lhs; rw [add_plain, add_plain]); (with_reducible assumption); rfl; (conv => whnf)) | (apply loads_at; (conv => lhs; whnf); (with_reducible assumption); rfl; (conv => whnf)) | (refine ⟨⟨by omega, by omega⟩, ?_⟩; (conv => whnf))))
    refine store_step u 0 _ (pcC ⟨0, [], none, 0⟩).toArray rfl hBu3 rfl rfl (.inl (Nat.le_refl 0)) (pc_one ⟨0, [], none, 0⟩) ?_
    have hB5 := Heap.put_same F3 u (pcO ⟨0, [], none, 0⟩)
    have hE5 : Ext F (F3.put u (pcO ⟨0, [], none, 0⟩)) := hE03.put h0u _
    generalize F3.put u _ = F5 at hB5 hE5 ⊢
    ((conv => whnf); repeat (first | (apply load_at; (conv => lhs; whnf); (with_reducible assumption); rfl; (conv => whnf)) | (apply load_at; (conv => lhs; rw [add_plain, add_plain]); (with_reducible assumption); rfl; (conv => whnf)) | (apply loads_at; (conv => lhs; whnf); (with_reducible assumption); rfl; (conv => whnf)) | (refine ⟨⟨by omega, by omega⟩, ?_⟩; (conv => whnf))))
    refine res_cells tab_ok rfl rfl hB5 rfl ?_
    ((conv => whnf); repeat (first | (apply load_at; (conv => lhs; whnf); (with_reducible assumption); rfl; (conv => whnf)) | (apply load_at; (conv => lhs; rw [add_plain, add_plain]); (with_reducible assumption); rfl; (conv => whnf)) | (apply loads_at; (conv => lhs; whnf); (with_reducible assumption); rfl; (conv => whnf)) | (refine ⟨⟨by omega, by omega⟩, ?_⟩; (conv => whnf))))
    exact ⟨⟨⟨0, [], none, 0⟩, rfl, ⟨RowAt.nil _ _, Nat.zero_le _⟩, (fun a h => by cases h), (fun h => by cases h)⟩, hE5⟩
  | true =>
  rw [Bool.true_and] at hY
  refine short [0, 4, 6, 21] [.pointer (some ⟨b, 0, none⟩), .pointer (some ⟨t, 0, none⟩), .pointer (some ⟨u, 0, none⟩), .tuple #[.int .i64 at_, .bool true]] rfl fun ρ => ?_
  ((conv => whnf); repeat (first | (apply load_at; (conv => lhs; whnf); (with_reducible assumption); rfl; (conv => whnf)) | (apply load_at; (conv => lhs; rw [add_plain, add_plain]); (with_reducible assumption); rfl; (conv => whnf)) | (apply loads_at; (conv => lhs; whnf); (with_reducible assumption); rfl; (conv => whnf)) | (refine ⟨⟨by omega, by omega⟩, ?_⟩; (conv => whnf))))
  refine call_of (k3 F3 (hE.trans hE03)) ?_
  rintro v F4 ⟨w, rfl, ⟨A, c, rfl, hc, hr, hf⟩, hE4⟩
  have hE04 := hE03.trans hE4
  have hBt4 := hE4 _ _ hBt3
  have hBu4 := hE4 _ _ hBu3
  have hf0 : ∀ a, A = some a → F a.block = none := fun a ha => hE03.none (hf a ha)
  refine short [0, 4, 6, 30] [.pointer (some ⟨b, 0, none⟩), .pointer (some ⟨t, 0, none⟩), .pointer (some ⟨u, 0, none⟩), .tuple #[.slice A l.length c, .int .i64 re]] rfl fun ρ => ?_
  ((conv => whnf); repeat (first | (apply load_at; (conv => lhs; whnf); (with_reducible assumption); rfl; (conv => whnf)) | (apply load_at; (conv => lhs; rw [add_plain, add_plain]); (with_reducible assumption); rfl; (conv => whnf)) | (apply loads_at; (conv => lhs; whnf); (with_reducible assumption); rfl; (conv => whnf)) | (refine ⟨⟨by omega, by omega⟩, ?_⟩; (conv => whnf))))
  refine cond_split (fun h => ?_) (fun h => ?_)
  · have he : (re == 0) = false := by
      have h : (re != 0) = true := h
      simpa using h
    rw [he, Bool.false_and] at hY
    subst hY
    ((conv => whnf); repeat (first | (apply load_at; (conv => lhs; whnf); (with_reducible assumption); rfl; (conv => whnf)) | (apply load_at; (conv => lhs; rw [add_plain, add_plain]); (with_reducible assumption); rfl; (conv => whnf)) | (apply loads_at; (conv => lhs; whnf); (with_reducible assumption); rfl; (conv => whnf)) | (refine ⟨⟨by omega, by omega⟩, ?_⟩; (conv => whnf))))
    refine store_step u 0 _ (pcC ⟨0, [], none, 0⟩).toArray rfl hBu4 rfl rfl (.inl (Nat.le_refl 0)) (pc_one ⟨0, [], none, 0⟩) ?_
    have hB5 := Heap.put_same F4 u (pcO ⟨0, [], none, 0⟩)
    have hE5 : Ext F (F4.put u (pcO ⟨0, [], none, 0⟩)) := hE04.put h0u _
    generalize F4.put u _ = F5 at hB5 hE5 ⊢
    ((conv => whnf); repeat (first | (apply load_at; (conv => lhs; whnf); (with_reducible assumption); rfl; (conv => whnf)) | (apply load_at; (conv => lhs; rw [add_plain, add_plain]); (with_reducible assumption); rfl; (conv => whnf)) | (apply loads_at; (conv => lhs; whnf); (with_reducible assumption); rfl; (conv => whnf)) | (refine ⟨⟨by omega, by omega⟩, ?_⟩; (conv => whnf))))
    refine res_cells tab_ok rfl rfl hB5 rfl ?_
    ((conv => whnf); repeat (first | (apply load_at; (conv => lhs; whnf); (with_reducible assumption); rfl; (conv => whnf)) | (apply load_at; (conv => lhs; rw [add_plain, add_plain]); (with_reducible assumption); rfl; (conv => whnf)) | (apply loads_at; (conv => lhs; whnf); (with_reducible assumption); rfl; (conv => whnf)) | (refine ⟨⟨by omega, by omega⟩, ?_⟩; (conv => whnf))))
    exact ⟨⟨⟨0, [], none, 0⟩, rfl, ⟨RowAt.nil _ _, Nat.zero_le _⟩, (fun a h => by cases h), (fun h => by cases h)⟩, hE5⟩
  have he : (re == 0) = true := by
    have h : (re != 0) = false := h
    simpa using h
  rw [he, Bool.true_and] at hY
  clear h he
  ((conv => whnf); repeat (first | (apply load_at; (conv => lhs; whnf); (with_reducible assumption); rfl; (conv => whnf)) | (apply load_at; (conv => lhs; rw [add_plain, add_plain]); (with_reducible assumption); rfl; (conv => whnf)) | (apply loads_at; (conv => lhs; whnf); (with_reducible assumption); rfl; (conv => whnf)) | (refine ⟨⟨by omega, by omega⟩, ?_⟩; (conv => whnf))))
  refine call_of (k4 A c F4 hr hc (hN.mono hE04)) ?_
  rintro v F5 ⟨w, rfl, _, hE5⟩
  have hE05 := hE04.trans hE5
  have hBt5 := hE5 _ _ hBt4
  have hBu5 := hE5 _ _ hBu4
  have hr5 := hr.mono hE5
  refine short [0, 4, 6, 10, 38] [.pointer (some ⟨b, 0, none⟩), .pointer (some ⟨t, 0, none⟩), .pointer (some ⟨u, 0, none⟩), .slice A l.length c, .tuple #[.int .i64 up, .int .i64 uq, w, .int .i64 ue]] rfl fun ρ => ?_
  ((conv => whnf); repeat (first | (apply load_at; (conv => lhs; whnf); (with_reducible assumption); rfl; (conv => whnf)) | (apply load_at; (conv => lhs; rw [add_plain, add_plain]); (with_reducible assumption); rfl; (conv => whnf)) | (apply loads_at; (conv => lhs; whnf); (with_reducible assumption); rfl; (conv => whnf)) | (refine ⟨⟨by omega, by omega⟩, ?_⟩; (conv => whnf))))
  refine call_of (k1 F5 (hE.trans hE05)) ?_
  rintro v F5 ⟨rfl, rfl⟩
  ((conv => whnf); repeat (first | (apply load_at; (conv => lhs; whnf); (with_reducible assumption); rfl; (conv => whnf)) | (apply load_at; (conv => lhs; rw [add_plain, add_plain]); (with_reducible assumption); rfl; (conv => whnf)) | (apply loads_at; (conv => lhs; whnf); (with_reducible assumption); rfl; (conv => whnf)) | (refine ⟨⟨by omega, by omega⟩, ?_⟩; (conv => whnf))))
  refine call_of (k5 F5) ?_
  rintro v F6 ⟨rfl, hE6⟩
  have hE06 := hE05.trans hE6
  have hBt6 := hE6 _ _ hBt5
  have hBu6 := hE6 _ _ hBu5
  have hr6 := hr5.mono hE6
  refine short [4, 6, 10, 11, 13, 47] [.pointer (some ⟨t, 0, none⟩), .pointer (some ⟨u, 0, none⟩), .slice A l.length c, .int .i64 ue, .int .i64 uq, .tuple #[.int .i64 hm, .bool z2]] rfl fun ρ => ?_
  have hr7 : ∀ o, RowAt (F6.put u o) A (bytesOf l) := fun o => by
    refine rowAt_keepq (q := u) hr6 (fun z o h h' => ?_) fun a ha e => ?_
    · rw [Heap.put_other _ _ (fun e => h' (by rw [e]))]
      exact h
    · have := hf a ha
      rw [e, hBu3] at this
      cases this
  ((conv => whnf); repeat (first | (apply load_at; (conv => lhs; whnf); (with_reducible assumption); rfl; (conv => whnf)) | (apply load_at; (conv => lhs; rw [add_plain, add_plain]); (with_reducible assumption); rfl; (conv => whnf)) | (apply loads_at; (conv => lhs; whnf); (with_reducible assumption); rfl; (conv => whnf)) | (refine ⟨⟨by omega, by omega⟩, ?_⟩; (conv => whnf))))
  refine cond_split (fun h => ?_) (fun h => ?_)
  · have he : (ue == 0) = true := h
    rw [he, Bool.true_and] at hY
    clear h
    rw [he]
    ((conv => whnf); repeat (first | (apply load_at; (conv => lhs; whnf); (with_reducible assumption); rfl; (conv => whnf)) | (apply load_at; (conv => lhs; rw [add_plain, add_plain]); (with_reducible assumption); rfl; (conv => whnf)) | (apply loads_at; (conv => lhs; whnf); (with_reducible assumption); rfl; (conv => whnf)) | (refine ⟨⟨by omega, by omega⟩, ?_⟩; (conv => whnf))))
    refine cond_split (fun h => ?_) (fun h => ?_)
    · have hq : (uq == q) = true := h
      rw [hq, Bool.true_and] at hY
      subst hY
      rw [hq]
      ((conv => whnf); repeat (first | (apply load_at; (conv => lhs; whnf); (with_reducible assumption); rfl; (conv => whnf)) | (apply load_at; (conv => lhs; rw [add_plain, add_plain]); (with_reducible assumption); rfl; (conv => whnf)) | (apply loads_at; (conv => lhs; whnf); (with_reducible assumption); rfl; (conv => whnf)) | (refine ⟨⟨by omega, by omega⟩, ?_⟩; (conv => whnf))))
      refine store_step u 0 _ (pcC ⟨hm, l, A, c⟩).toArray rfl hBu6 rfl rfl (.inl (Nat.le_refl 0)) (pc_one ⟨hm, l, A, c⟩) ?_
      have hB7 := Heap.put_same F6 u (pcO ⟨hm, l, A, c⟩)
      have hE7 : Ext F (F6.put u (pcO ⟨hm, l, A, c⟩)) := hE06.put h0u _
      replace hr7 := hr7 (pcO ⟨hm, l, A, c⟩)
      generalize F6.put u _ = F7 at hB7 hE7 hr7 ⊢
      ((conv => whnf); repeat (first | (apply load_at; (conv => lhs; whnf); (with_reducible assumption); rfl; (conv => whnf)) | (apply load_at; (conv => lhs; rw [add_plain, add_plain]); (with_reducible assumption); rfl; (conv => whnf)) | (apply loads_at; (conv => lhs; whnf); (with_reducible assumption); rfl; (conv => whnf)) | (refine ⟨⟨by omega, by omega⟩, ?_⟩; (conv => whnf))))
      refine res_cells tab_ok rfl rfl hB7 rfl ?_
      ((conv => whnf); repeat (first | (apply load_at; (conv => lhs; whnf); (with_reducible assumption); rfl; (conv => whnf)) | (apply load_at; (conv => lhs; rw [add_plain, add_plain]); (with_reducible assumption); rfl; (conv => whnf)) | (apply loads_at; (conv => lhs; whnf); (with_reducible assumption); rfl; (conv => whnf)) | (refine ⟨⟨by omega, by omega⟩, ?_⟩; (conv => whnf))))
      exact ⟨⟨⟨hm, l, A, c⟩, rfl, ⟨hr7, by show l.length ≤ 900000; omega⟩, hf0, fun _ => ⟨hP.symm, hc⟩⟩, hE7⟩
    · have hq : (uq == q) = false := h
      rw [hq, Bool.false_and] at hY
      subst hY
      rw [hq]
      ((conv => whnf); repeat (first | (apply load_at; (conv => lhs; whnf); (with_reducible assumption); rfl; (conv => whnf)) | (apply load_at; (conv => lhs; rw [add_plain, add_plain]); (with_reducible assumption); rfl; (conv => whnf)) | (apply loads_at; (conv => lhs; whnf); (with_reducible assumption); rfl; (conv => whnf)) | (refine ⟨⟨by omega, by omega⟩, ?_⟩; (conv => whnf))))
      refine store_step u 0 _ (pcC ⟨hm, l, A, c⟩).toArray rfl hBu6 rfl rfl (.inl (Nat.le_refl 0)) (pc_one ⟨hm, l, A, c⟩) ?_
      have hB7 := Heap.put_same F6 u (pcO ⟨hm, l, A, c⟩)
      have hE7 : Ext F (F6.put u (pcO ⟨hm, l, A, c⟩)) := hE06.put h0u _
      replace hr7 := hr7 (pcO ⟨hm, l, A, c⟩)
      generalize F6.put u _ = F7 at hB7 hE7 hr7 ⊢
      ((conv => whnf); repeat (first | (apply load_at; (conv => lhs; whnf); (with_reducible assumption); rfl; (conv => whnf)) | (apply load_at; (conv => lhs; rw [add_plain, add_plain]); (with_reducible assumption); rfl; (conv => whnf)) | (apply loads_at; (conv => lhs; whnf); (with_reducible assumption); rfl; (conv => whnf)) | (refine ⟨⟨by omega, by omega⟩, ?_⟩; (conv => whnf))))
      refine res_cells tab_ok rfl rfl hB7 rfl ?_
      ((conv => whnf); repeat (first | (apply load_at; (conv => lhs; whnf); (with_reducible assumption); rfl; (conv => whnf)) | (apply load_at; (conv => lhs; rw [add_plain, add_plain]); (with_reducible assumption); rfl; (conv => whnf)) | (apply loads_at; (conv => lhs; whnf); (with_reducible assumption); rfl; (conv => whnf)) | (refine ⟨⟨by omega, by omega⟩, ?_⟩; (conv => whnf))))
      exact ⟨⟨⟨hm, l, A, c⟩, rfl, ⟨hr7, by show l.length ≤ 900000; omega⟩, hf0, fun h => by cases h⟩, hE7⟩
  · have he : (ue == 0) = false := h
    rw [he, Bool.false_and] at hY
    subst hY
    rw [he]
    ((conv => whnf); repeat (first | (apply load_at; (conv => lhs; whnf); (with_reducible assumption); rfl; (conv => whnf)) | (apply load_at; (conv => lhs; rw [add_plain, add_plain]); (with_reducible assumption); rfl; (conv => whnf)) | (apply loads_at; (conv => lhs; whnf); (with_reducible assumption); rfl; (conv => whnf)) | (refine ⟨⟨by omega, by omega⟩, ?_⟩; (conv => whnf))))
    refine store_step u 0 _ (pcC ⟨hm, l, A, c⟩).toArray rfl hBu6 rfl rfl (.inl (Nat.le_refl 0)) (pc_one ⟨hm, l, A, c⟩) ?_
    have hB7 := Heap.put_same F6 u (pcO ⟨hm, l, A, c⟩)
    have hE7 : Ext F (F6.put u (pcO ⟨hm, l, A, c⟩)) := hE06.put h0u _
    replace hr7 := hr7 (pcO ⟨hm, l, A, c⟩)
    generalize F6.put u _ = F7 at hB7 hE7 hr7 ⊢
    ((conv => whnf); repeat (first | (apply load_at; (conv => lhs; whnf); (with_reducible assumption); rfl; (conv => whnf)) | (apply load_at; (conv => lhs; rw [add_plain, add_plain]); (with_reducible assumption); rfl; (conv => whnf)) | (apply loads_at; (conv => lhs; whnf); (with_reducible assumption); rfl; (conv => whnf)) | (refine ⟨⟨by omega, by omega⟩, ?_⟩; (conv => whnf))))
    refine res_cells tab_ok rfl rfl hB7 rfl ?_
    ((conv => whnf); repeat (first | (apply load_at; (conv => lhs; whnf); (with_reducible assumption); rfl; (conv => whnf)) | (apply load_at; (conv => lhs; rw [add_plain, add_plain]); (with_reducible assumption); rfl; (conv => whnf)) | (apply loads_at; (conv => lhs; whnf); (with_reducible assumption); rfl; (conv => whnf)) | (refine ⟨⟨by omega, by omega⟩, ?_⟩; (conv => whnf))))
    exact ⟨⟨⟨hm, l, A, c⟩, rfl, ⟨hr7, by show l.length ≤ 900000; omega⟩, hf0, fun h => by cases h⟩, hE7⟩
end Go.Proofs.YtmpiggcooboenaaGreatDoor.Al
/- Logs: redo.whole. -/
namespace Go.Proofs.YtmpiggcooboenaaGreatDoor.Al
open Go Go.Al Go.Proofs Go.RowKit
set_option maxHeartbeats 8000000
set_option maxRecDepth 100000
set_option linter.unusedVariables false
set_option linter.unusedSimpArgs false
def whl {α : Type} (o : DOps α) (a : α) (q : Int) : Nat → Nat → Option (List (Int × List UInt8))
  | 0, _ => some []
  | k + 1, i => if slotY o a q (i : Int) = true then (whl o a q k (i + 1)).map (slotP o a (i : Int) :: ·) else none
def wholeO {α : Type} (o : DOps α) (a : α) (n q : Int) : Option (List (Int × List UInt8)) := if n > pagesN (o.sz a) then none else whl o a q n.toNat 0
theorem whl_len {α : Type} (o : DOps α) (a : α) (q : Int) : ∀ (k i : Nat) (ws : List (Int × List UInt8)), whl o a q k i = some ws → ws.length = k
  | 0, i, ws, h => by cases h; rfl
  | k + 1, i, ws, h => by
    unfold whl at h
    split at h
    · cases e : whl o a q k (i + 1) with
      | none => rw [e] at h; cases h
      | some us =>
        rw [e] at h
        cases h
        rw [List.length_cons, whl_len o a q k (i + 1) us e]
    · cases h
theorem wholeO_len {α : Type} {o : DOps α} {a : α} {n q : Int} {ws : List (Int × List UInt8)} (h : wholeO o a n q = some ws) : ws.length = n.toNat ∧ n ≤ pagesN (o.sz a) := by
  unfold wholeO at h
  split at h
  · cases h
  · exact ⟨whl_len o a q _ _ ws h, by omega⟩
/-- Pieces that lie apart of a row. -/
structure PcsK (F F1 : Heap) (S : Value) (ps : List PcR) (G : Heap) : Prop where
  base : Ext G F1
  out : ∀ k, blk S = some k → G k = none
  ok : ∀ p ∈ ps, PcOk G p
  new : ∀ p ∈ ps, ∀ a, p.A = some a → F a.block = none
theorem redoWhole {D F : Heap} {b : Nat} {s : DS} (hE : Ext D F) (hD : Dk D b s) (hN : NibAt F) (n q : Int) (hn : 0 ≤ n) :
    FnK Tryz.prog 42 #[.pointer (some ⟨b, 0, none⟩), .agg #[.int .i64 n, .int .i64 q]] F (fun v F' => (∃ (ps : List PcR) (A : Option Addr) (c : Nat), v = .tuple #[.slice A ps.length c, .bool (wholeO dsO s n q).isSome] ∧ RowAt F' A (rowS pcC ps) ∧ (∀ a, A = some a → F a.block = none) ∧ (∀ p ∈ ps, PcOk F' p ∧ ∀ a, p.A = some a → F a.block = none) ∧ ((wholeO dsO s n q).isSome = true → wholeO dsO s n q = some (ps.map pcW))) ∧ Ext F F') := by
  have hwf := hD.1
  have hsz := hwf.sz
  have k1 := fun F hE => dk_size (F := F) hE hD
  have k2 := fun F => pages s.size F
  have hle := pagesN_le s.size
  have k3 := fun F hE hN i => redoSlot (F := F) hE hD hN n q i
  have hW : wholeO dsO s n q = if n > pagesN s.size then none else whl dsO s q n.toNat 0 := rfl
  have hrec : ∀ k i : Nat, whl dsO s q (k + 1) i = if slotY dsO s q (i : Int) = true then (whl dsO s q k (i + 1)).map (slotP dsO s (i : Int) :: ·) else none := fun _ _ => rfl
  have h0 : ∀ i, whl dsO s q 0 i = some [] := fun _ => rfl
  generalize wholeO dsO s n q = w at hW
  generalize whl dsO s q = wh at hW hrec h0
  generalize slotY dsO s q = sy at k3 hrec
  generalize slotP dsO s = sp at k3 hrec
  generalize pagesN s.size = pn at k2 hle hW
  (refine fn_walk tab_ok Tryz.func42 rfl rfl rfl rfl ?_; (conv => whnf))
  refine new_step (.cells #[.int .i64 n, .int .i64 q] 88) rfl fun t h0_t => ?_
  have hE_t := Ext.new h0_t (.cells #[.int .i64 n, .int .i64 q] 88)
  have hB_t := Heap.put_same F t (.cells #[.int .i64 n, .int .i64 q] 88)
  generalize F.put t _ = F1 at hE_t hB_t ⊢
  ((conv => whnf); repeat (first | (apply load_at; (conv => lhs; whnf); (with_reducible assumption); rfl; (conv => whnf)) | (apply load_at; (conv => lhs; rw [add_plain, add_plain]); (with_reducible assumption); rfl; (conv => whnf)) | (apply loads_at; (conv => lhs; whnf); (with_reducible assumption); rfl; (conv => whnf)) | (refine ⟨⟨by omega, by omega⟩, ?_⟩; (conv => whnf))))
  refine draw_walk tab_ok (by kernel_rfl) [0, 1, 2, 3, 4, 5] (by kernel_rfl) ?_
  ((conv => whnf); repeat (first | (apply load_at; (conv => lhs; whnf); (with_reducible assumption); rfl; (conv => whnf)) | (apply load_at; (conv => lhs; rw [add_plain, add_plain]); (with_reducible assumption); rfl; (conv => whnf)) | (apply loads_at; (conv => lhs; whnf); (with_reducible assumption); rfl; (conv => whnf)) | (refine ⟨⟨by omega, by omega⟩, ?_⟩; (conv => whnf))))
  refine call_of (k1 F1 (hE.trans hE_t)) ?_
  rintro v F1 ⟨rfl, rfl⟩
  refine ⟨Ext.refl _, ?_⟩
  ((conv => whnf); repeat (first | (apply load_at; (conv => lhs; whnf); (with_reducible assumption); rfl; (conv => whnf)) | (apply load_at; (conv => lhs; rw [add_plain, add_plain]); (with_reducible assumption); rfl; (conv => whnf)) | (apply loads_at; (conv => lhs; whnf); (with_reducible assumption); rfl; (conv => whnf)) | (refine ⟨⟨by omega, by omega⟩, ?_⟩; (conv => whnf))))
  refine call_of (k2 F1) ?_
  rintro v F1 ⟨rfl, rfl⟩
  refine ⟨Ext.refl _, ?_⟩
  ((conv => whnf); repeat (first | (apply load_at; (conv => lhs; whnf); (with_reducible assumption); rfl; (conv => whnf)) | (apply load_at; (conv => lhs; rw [add_plain, add_plain]); (with_reducible assumption); rfl; (conv => whnf)) | (apply loads_at; (conv => lhs; whnf); (with_reducible assumption); rfl; (conv => whnf)) | (refine ⟨⟨by omega, by omega⟩, ?_⟩; (conv => whnf))))
  refine cond_split (fun h => ?_) (fun h => ?_)
  · have hg : n > pn := of_decide_eq_true (show decide (n > pn) = true from h)
    rw [if_pos hg] at hW
    subst hW
    ((conv => whnf); repeat (first | (apply load_at; (conv => lhs; whnf); (with_reducible assumption); rfl; (conv => whnf)) | (apply load_at; (conv => lhs; rw [add_plain, add_plain]); (with_reducible assumption); rfl; (conv => whnf)) | (apply loads_at; (conv => lhs; whnf); (with_reducible assumption); rfl; (conv => whnf)) | (refine ⟨⟨by omega, by omega⟩, ?_⟩; (conv => whnf))))
    exact ⟨⟨[], none, 0, rfl, RowAt.nil _ _, (fun a h => by cases h), (fun p h => by cases h), fun h => by cases h⟩, hE_t⟩
  have hg : ¬ n > pn := of_decide_eq_false (show decide (n > pn) = false from h)
  rw [if_neg hg] at hW
  obtain ⟨m, rfl⟩ : ∃ m : Nat, n = (m : Int) := ⟨n.toNat, by omega⟩
  rw [Int.toNat_natCast] at hW
  clear h
  ((conv => whnf); repeat (first | (apply load_at; (conv => lhs; whnf); (with_reducible assumption); rfl; (conv => whnf)) | (apply load_at; (conv => lhs; rw [add_plain, add_plain]); (with_reducible assumption); rfl; (conv => whnf)) | (apply loads_at; (conv => lhs; whnf); (with_reducible assumption); rfl; (conv => whnf)) | (refine ⟨⟨by omega, by omega⟩, ?_⟩; (conv => whnf))))
  refine short [0, 3, 6, 17, 18] [.pointer (some ⟨b, 0, none⟩), .pointer (some ⟨t, 0, none⟩), .slice none 0 0, .int .i64 (m : Int), .int .i64 0] rfl fun ρ => ?_
  refine loop_slots [0, 3, 6, 17, 18] (fun k vs F' => ∃ (i : Nat) (S : Value) (ps : List PcR) (G : Heap), i + k = m ∧ ps.length = i ∧ vs = [.pointer (some ⟨b, 0, none⟩), .pointer (some ⟨t, 0, none⟩), S, .int .i64 (m : Int), .int .i64 (i : Int)] ∧ Mine F F' S 117 2 ps.length (rowS pcC ps) ∧ PcsK F F' S ps G ∧ G t = some (.cells #[.int .i64 (m : Int), .int .i64 q] 88) ∧ w = (wh k i).map (ps.map pcW ++ ·)) m ⟨0, .slice none 0 0, [], F1, by omega, rfl, rfl, Mine.nil _ _ _ _ hE_t, ⟨Ext.refl _, (fun k h => by cases h), (fun p h => by cases h), fun p h => by cases h⟩, hB_t, by rw [hW]; cases wh m 0 <;> rfl⟩ ?_
  rintro k vs F2 ρ ⟨i, S, ps, G, hik, hpi, rfl, hM, hP, hGt, hw⟩
  have hBt := hP.base _ _ hGt
  ((conv => whnf); repeat (first | (apply load_at; (conv => lhs; whnf); (with_reducible assumption); rfl; (conv => whnf)) | (apply load_at; (conv => lhs; rw [add_plain, add_plain]); (with_reducible assumption); rfl; (conv => whnf)) | (apply loads_at; (conv => lhs; whnf); (with_reducible assumption); rfl; (conv => whnf)) | (refine ⟨⟨by omega, by omega⟩, ?_⟩; (conv => whnf))))
  refine cond_split (fun h => ?_) (fun h => ?_)
  · have hi : i < m := by
      have h : decide ((i : Int) < (m : Int)) = true := h
      have := of_decide_eq_true h
      omega
    obtain ⟨k', rfl⟩ : ∃ k', k = k' + 1 := ⟨k - 1, by omega⟩
    rw [hrec] at hw
    ((conv => whnf); repeat (first | (apply load_at; (conv => lhs; whnf); (with_reducible assumption); rfl; (conv => whnf)) | (apply load_at; (conv => lhs; rw [add_plain, add_plain]); (with_reducible assumption); rfl; (conv => whnf)) | (apply loads_at; (conv => lhs; whnf); (with_reducible assumption); rfl; (conv => whnf)) | (refine ⟨⟨by omega, by omega⟩, ?_⟩; (conv => whnf))))
    refine call_of (k3 F2 (hE.trans hM.ext) (hN.mono hM.ext) (i : Int)) ?_
    rintro v F3 ⟨⟨p, rfl, hpk, hpf, hpy⟩, hE3⟩
    have hBt3 := hE3 _ _ hBt
    have hM3 := hM.mono hE3
    ((conv => whnf); repeat (first | (apply load_at; (conv => lhs; whnf); (with_reducible assumption); rfl; (conv => whnf)) | (apply load_at; (conv => lhs; rw [add_plain, add_plain]); (with_reducible assumption); rfl; (conv => whnf)) | (apply loads_at; (conv => lhs; whnf); (with_reducible assumption); rfl; (conv => whnf)) | (refine ⟨⟨by omega, by omega⟩, ?_⟩; (conv => whnf))))
    refine new_step (.cells #[.int .i64 0, .slice none 0 0] 117) rfl fun u h0_u => ?_
    have hE_u := Ext.new h0_u (.cells #[.int .i64 0, .slice none 0 0] 117)
    have hB_u := Heap.put_same F3 u (.cells #[.int .i64 0, .slice none 0 0] 117)
    generalize F3.put u _ = F4 at hE_u hB_u ⊢
    ((conv => whnf); repeat (first | (apply load_at; (conv => lhs; whnf); (with_reducible assumption); rfl; (conv => whnf)) | (apply load_at; (conv => lhs; rw [add_plain, add_plain]); (with_reducible assumption); rfl; (conv => whnf)) | (apply loads_at; (conv => lhs; whnf); (with_reducible assumption); rfl; (conv => whnf)) | (refine ⟨⟨by omega, by omega⟩, ?_⟩; (conv => whnf))))
    refine store_step u 0 _ (pcC p).toArray rfl hB_u rfl rfl (.inl (Nat.le_refl 0)) (pc_one p) ?_
    have hB5 := Heap.put_same F4 u (pcO p)
    have hE5 : Ext F3 (F4.put u (pcO p)) := hE_u.put h0_u _
    generalize F4.put u _ = F5 at hB5 hE5 ⊢
    have hBt5 := hE5 _ _ hBt3
    have hM5 := hM3.mono hE5
    refine short [0, 3, 6, 8, 17, 18, 27] [.pointer (some ⟨b, 0, none⟩), .pointer (some ⟨t, 0, none⟩), S, .pointer (some ⟨u, 0, none⟩), .int .i64 (m : Int), .int .i64 (i : Int), .bool (sy (i : Int))] rfl fun ρ => ?_
    cases hy : sy (i : Int) with
    | false =>
      rw [hy, if_neg (by decide)] at hw
      obtain rfl : w = none := hw
      ((conv => whnf); repeat (first | (apply load_at; (conv => lhs; whnf); (with_reducible assumption); rfl; (conv => whnf)) | (apply load_at; (conv => lhs; rw [add_plain, add_plain]); (with_reducible assumption); rfl; (conv => whnf)) | (apply loads_at; (conv => lhs; whnf); (with_reducible assumption); rfl; (conv => whnf)) | (refine ⟨⟨by omega, by omega⟩, ?_⟩; (conv => whnf))))
      exact ⟨⟨[], none, 0, rfl, RowAt.nil _ _, (fun a h => by cases h), (fun p h => by cases h), fun h => by cases h⟩, hM5.ext⟩
    | true =>
      rw [hy] at hpy
      obtain ⟨hpw, hpc⟩ := hpy rfl
      rw [hy, if_pos rfl, ← hpw] at hw
      ((conv => whnf); repeat (first | (apply load_at; (conv => lhs; whnf); (with_reducible assumption); rfl; (conv => whnf)) | (apply load_at; (conv => lhs; rw [add_plain, add_plain]); (with_reducible assumption); rfl; (conv => whnf)) | (apply loads_at; (conv => lhs; whnf); (with_reducible assumption); rfl; (conv => whnf)) | (refine ⟨⟨by omega, by omega⟩, ?_⟩; (conv => whnf))))
      refine new_step (.cells (rowS pcC [p]).toArray 117) rfl fun g h0_g => ?_
      have hE_g := Ext.new h0_g (.cells (rowS pcC [p]).toArray 117)
      have hB_g := Heap.put_same F5 g (.cells (rowS pcC [p]).toArray 117)
      generalize F5.put g _ = F6 at hE_g hB_g ⊢
      have hM6 := hM5.mono hE_g
      have hrow := row_blk hB_g
      rw [List.toList_toArray] at hrow
      have hE26 := hE3.trans (hE5.trans hE_g)
      ((conv => whnf); repeat (first | (apply load_at; (conv => lhs; whnf); (with_reducible assumption); rfl; (conv => whnf)) | (apply load_at; (conv => lhs; rw [add_plain, add_plain]); (with_reducible assumption); rfl; (conv => whnf)) | (apply loads_at; (conv => lhs; whnf); (with_reducible assumption); rfl; (conv => whnf)) | (refine ⟨⟨by omega, by omega⟩, ?_⟩; (conv => whnf))))
      refine append_own tab_ok (s := S) (n := ps.length) (xs := rowS pcC ps) (m := 1) (ys := rowS pcC [p]) (y := .slice (some ⟨g, 0, none⟩) 1 1) rfl rfl rfl rfl rfl ⟨_, rfl, fun k h => by cases h⟩ ⟨_, rfl, rfl⟩ (by decide) hM6.own ⟨rfl, .inl ⟨_, _, rfl, hrow⟩⟩ (pc_one p) (by show 2 * (ps.length + 1) * 32 ≤ _; omega) fun S2 F7 hO7 hk7 hf7 => ?_
      have hM7 : Mine F F7 S2 117 2 (ps ++ [p]).length (rowS pcC (ps ++ [p])) := by
        have e : rowS pcC (ps ++ [p]) = rowS pcC ps ++ rowS pcC [p] := by unfold rowS; rw [List.flatMap_append]
        rw [e, List.length_append]
        refine ⟨hO7, fun k hk => ?_, hk7.ext hM6.ext hM6.fresh⟩
        rcases hf7 k hk with h | h
        · exact hM6.fresh k h
        · exact hM6.ext.none h
      have hG1 : Ext (gain G F2 F3) F3 := fun z o hz => by
        cases e : F2 z with
        | none => rw [gain_new e] at hz; exact hz
        | some u => rw [gain_old e] at hz; exact hE3 _ _ (hP.base _ _ hz)
      have hG0 : ∀ k, blk S = some k → gain G F2 F3 k = none := fun k hk => by
        cases e : F2 k with
        | none => exact absurd e (hM.own.there hk)
        | some u => rw [gain_old e]; exact hP.out k hk
      have hG6 : Ext (gain G F2 F3) F6 := hG1.trans (hE5.trans hE_g)
      have hGG : Ext G (gain G F2 F3) := gain_ext hP.base
      have hP7 : PcsK F F7 S2 (ps ++ [p]) (gain G F2 F3) := by
        refine ⟨hk7.ext hG6 hG0, fun k hk => ?_, fun x hx => ?_, fun x hx a ha => ?_⟩
        · rcases hf7 k hk with h | h
          · exact hG0 k h
          · exact hG6.none h
        · rcases List.mem_append.1 hx with hx | hx
          · exact (hP.ok x hx).mono hGG
          · rw [List.mem_singleton] at hx
            subst hx
            exact ⟨rowAt_gain hpk.row hpf, hpk.len⟩
        · rcases List.mem_append.1 hx with hx | hx
          · exact hP.new x hx a ha
          · rw [List.mem_singleton] at hx
            subst hx
            exact hM.ext.none (hpf a ha)
      ((conv => whnf); repeat (first | (apply load_at; (conv => lhs; whnf); (with_reducible assumption); rfl; (conv => whnf)) | (apply load_at; (conv => lhs; rw [add_plain, add_plain]); (with_reducible assumption); rfl; (conv => whnf)) | (apply loads_at; (conv => lhs; whnf); (with_reducible assumption); rfl; (conv => whnf)) | (refine ⟨⟨by omega, by omega⟩, ?_⟩; (conv => whnf))))
      refine ⟨k', by omega, i + 1, S2, ps ++ [p], gain G F2 F3, by omega, by rw [List.length_append, hpi]; rfl, ?_, hM7, hP7, hGG _ _ hGt, ?_⟩
      · rw [← wrap_succ (j := i) (by omega)]
        rfl
      · rw [hw]
        cases wh k' (i + 1) with
        | none => rfl
        | some us => show some (ps.map pcW ++ (pcW p :: us)) = some ((ps ++ [p]).map pcW ++ us); rw [List.map_append, List.append_assoc]; rfl
  · have hi : i = m := by
      have := of_decide_eq_false h
      omega
    obtain rfl : k = 0 := by omega
    rw [h0] at hw
    obtain ⟨A, c, rfl, _, hr⟩ := hM.own.row
    have hw : w = some (ps.map pcW ++ []) := hw
    rw [List.append_nil] at hw
    subst hw
    ((conv => whnf); repeat (first | (apply load_at; (conv => lhs; whnf); (with_reducible assumption); rfl; (conv => whnf)) | (apply load_at; (conv => lhs; rw [add_plain, add_plain]); (with_reducible assumption); rfl; (conv => whnf)) | (apply loads_at; (conv => lhs; whnf); (with_reducible assumption); rfl; (conv => whnf)) | (refine ⟨⟨by omega, by omega⟩, ?_⟩; (conv => whnf))))
    exact ⟨⟨ps, A, c, rfl, hr, fun a ha => hM.fresh a.block (by rw [ha]; rfl), fun p hp => ⟨(hP.ok p hp).mono hP.base, hP.new p hp⟩, fun _ => rfl⟩, hM.ext⟩
end Go.Proofs.YtmpiggcooboenaaGreatDoor.Al
/- Logs: redo.Open; what a log tells of itself; Load. -/
namespace Go.Proofs.YtmpiggcooboenaaGreatDoor.Al
open Go Go.Al Go.Proofs Go.RowKit
set_option maxHeartbeats 8000000
set_option maxRecDepth 100000
set_option linter.unusedVariables false
set_option linter.unusedSimpArgs false
theorem un_range (b : List UInt8) : 0 ≤ unP b ∧ 0 ≤ unQ b ∧ unQ b ≤ 4611686018427387904 := by
  unfold unP unQ
  by_cases h : okU b = true
  · rw [if_pos h, if_pos h]
    unfold okU secR inM at h
    rw [show Nat.beq 4 8 = false by decide, cond_false] at h
    simp only [Bool.and_eq_true, decide_eq_true_eq] at h
    exact ⟨h.2.2.1.1, h.2.2.2.1, h.2.2.2.2⟩
  · rw [if_neg h, if_neg h]
    exact ⟨by decide, by decide, by decide⟩
theorem rdN_range {α : Type} (o : DOps α) (a : α) : 0 ≤ (rdN o a).1 ∧ 0 ≤ (rdN o a).2.1 ∧ (rdN o a).2.1 ≤ 4611686018427387904 := by
  unfold rdN
  split
  · exact un_range _
  · exact ⟨Int.le_refl 0, Int.le_refl 0, show (0 : Int) ≤ 4611686018427387904 by decide⟩
/-- What opening a log makes of a disk: the disk, what is wrong, the log's number. -/
def openS {α : Type} (o : DOps α) (a : α) : α × Int × Option Int :=
  if (rdN o a).2.2 ≠ 0 then (a, (rdN o a).2.2, none) else
  match wholeO o a (rdN o a).1 (rdN o a).2.1 with
  | some ws => if (runW o a ws).2 ≠ 0 then ((runW o a ws).1, (runW o a ws).2, none) else ((runW o a ws).1, 0, some (rdN o a).2.1)
  | none => (a, 0, some (rdN o a).2.1)
abbrev lgO (b : Nat) (q : Int) : Obj := .cells #[.pointer (some ⟨b, 0, none⟩), .int .i64 q] 96
/-- What a call that opens a log hands back. -/
def LgV (D F D' F' : Heap) (b : Nat) (w : Value) : Option Int → Prop
  | none => w = .pointer none
  | some q => ∃ lb, w = .pointer (some ⟨lb, 0, none⟩) ∧ (D lb = none → F lb = none) ∧ D' lb = none ∧ F' lb = some (lgO b q)
theorem redoOpen {D F : Heap} {b : Nat} {s : DS} (hE : Ext D F) (hD : Dk D b s) (hN : NibAt F) (hw : s.writes + 40000 < 1000000000) :
    FnK Tryz.prog 25 #[.pointer (some ⟨b, 0, none⟩)] F (fun v F' => ∃ w D', v = .tuple #[w, .int .i64 (openS dsO s).2.1] ∧ Moves D F D' F' ∧ Dk D' b (openS dsO s).1 ∧ LgV D F D' F' b w (openS dsO s).2.2) := by
  have k1 := fun F hE hN => redoRead (F := F) hE hD hN
  have hrg := rdN_range dsO s
  have hO : openS dsO s = if (rdN dsO s).2.2 ≠ 0 then (s, (rdN dsO s).2.2, none) else
    match wholeO dsO s (rdN dsO s).1 (rdN dsO s).2.1 with
    | some ws => if (runW dsO s ws).2 ≠ 0 then ((runW dsO s ws).1, (runW dsO s ws).2, none) else ((runW dsO s ws).1, 0, some (rdN dsO s).2.1)
    | none => (s, 0, some (rdN dsO s).2.1) := rfl
  generalize openS dsO s = os at hO
  generalize rdN dsO s = rn at k1 hrg hO
  obtain ⟨n, q, e⟩ := rn
  dsimp only at k1 hrg hO
  have k2 := fun F hE hN => redoWhole (F := F) hE hD hN n q hrg.1
  have hwl := fun ws h => wholeO_len (o := dsO) (a := s) (n := n) (q := q) (ws := ws) h
  have hle := pagesN_le s.size
  replace hwl : ∀ ws, wholeO dsO s n q = some ws → ws.length = n.toNat ∧ n ≤ pagesN s.size := hwl
  generalize wholeO dsO s n q = wo at k2 hO hwl
  (refine fn_walk tab_ok Tryz.func25 rfl rfl rfl rfl ?_; (conv => whnf))
  refine call_of (k1 F hE hN) ?_
  rintro v F1 ⟨rfl, hE1⟩
  ((conv => whnf); repeat (first | (apply load_at; (conv => lhs; whnf); (with_reducible assumption); rfl; (conv => whnf)) | (apply load_at; (conv => lhs; rw [add_plain, add_plain]); (with_reducible assumption); rfl; (conv => whnf)) | (apply loads_at; (conv => lhs; whnf); (with_reducible assumption); rfl; (conv => whnf)) | (refine ⟨⟨by omega, by omega⟩, ?_⟩; (conv => whnf))))
  refine new_step (.cells #[.int .i64 0, .int .i64 0] 88) rfl fun t h0_t => ?_
  have hE_t := Ext.new h0_t (.cells #[.int .i64 0, .int .i64 0] 88)
  have hB_t := Heap.put_same F1 t (.cells #[.int .i64 0, .int .i64 0] 88)
  generalize F1.put t _ = F2 at hE_t hB_t ⊢
  ((conv => whnf); repeat (first | (apply load_at; (conv => lhs; whnf); (with_reducible assumption); rfl; (conv => whnf)) | (apply load_at; (conv => lhs; rw [add_plain, add_plain]); (with_reducible assumption); rfl; (conv => whnf)) | (apply loads_at; (conv => lhs; whnf); (with_reducible assumption); rfl; (conv => whnf)) | (refine ⟨⟨by omega, by omega⟩, ?_⟩; (conv => whnf))))
  refine store_step t 0 _ #[.int .i64 n, .int .i64 q] rfl hB_t rfl rfl (.inl (Nat.le_refl 0)) (two_ints _ _) ?_
  have hB3 := Heap.put_same F2 t (.cells #[.int .i64 n, .int .i64 q] 88)
  have hE3 : Ext F1 (F2.put t (.cells #[.int .i64 n, .int .i64 q] 88)) := hE_t.put h0_t _
  generalize F2.put t _ = F3 at hB3 hE3 ⊢
  have hE03 := hE1.trans hE3
  refine short [0, 4, 13] [.pointer (some ⟨b, 0, none⟩), .pointer (some ⟨t, 0, none⟩), .int .i64 e] rfl fun ρ => ?_
  ((conv => whnf); repeat (first | (apply load_at; (conv => lhs; whnf); (with_reducible assumption); rfl; (conv => whnf)) | (apply load_at; (conv => lhs; rw [add_plain, add_plain]); (with_reducible assumption); rfl; (conv => whnf)) | (apply loads_at; (conv => lhs; whnf); (with_reducible assumption); rfl; (conv => whnf)) | (refine ⟨⟨by omega, by omega⟩, ?_⟩; (conv => whnf))))
  refine cond_split (fun h => ?_) (fun h => ?_)
  · have he : e ≠ 0 := by
      have h : (e != 0) = true := h
      simpa using h
    rw [if_pos he] at hO
    subst hO
    ((conv => whnf); repeat (first | (apply load_at; (conv => lhs; whnf); (with_reducible assumption); rfl; (conv => whnf)) | (apply load_at; (conv => lhs; rw [add_plain, add_plain]); (with_reducible assumption); rfl; (conv => whnf)) | (apply loads_at; (conv => lhs; whnf); (with_reducible assumption); rfl; (conv => whnf)) | (refine ⟨⟨by omega, by omega⟩, ?_⟩; (conv => whnf))))
    exact ⟨_, D, rfl, Moves.ext hE hE03, hD, rfl⟩
  have he : ¬ e ≠ 0 := by
    have h : (e != 0) = false := h
    simpa using h
  rw [if_neg he] at hO
  clear h
  ((conv => whnf); repeat (first | (apply load_at; (conv => lhs; whnf); (with_reducible assumption); rfl; (conv => whnf)) | (apply load_at; (conv => lhs; rw [add_plain, add_plain]); (with_reducible assumption); rfl; (conv => whnf)) | (apply loads_at; (conv => lhs; whnf); (with_reducible assumption); rfl; (conv => whnf)) | (refine ⟨⟨by omega, by omega⟩, ?_⟩; (conv => whnf))))
  refine call_of (k2 F3 (hE.trans hE03) (hN.mono hE03)) ?_
  rintro v F4 ⟨⟨ps, A, c, rfl, hr, hf, hps, hwo⟩, hE4⟩
  have hE04 := hE03.trans hE4
  have hB4 := hE4 _ _ hB3
  refine short [0, 4, 20] [.pointer (some ⟨b, 0, none⟩), .pointer (some ⟨t, 0, none⟩), .tuple #[.slice A ps.length c, .bool wo.isSome]] rfl fun ρ => ?_
  cases hws : wo with
  | none =>
    rw [hws] at hO
    subst hO
    ((conv => whnf); repeat (first | (apply load_at; (conv => lhs; whnf); (with_reducible assumption); rfl; (conv => whnf)) | (apply load_at; (conv => lhs; rw [add_plain, add_plain]); (with_reducible assumption); rfl; (conv => whnf)) | (apply loads_at; (conv => lhs; whnf); (with_reducible assumption); rfl; (conv => whnf)) | (refine ⟨⟨by omega, by omega⟩, ?_⟩; (conv => whnf))))
    refine new_step (lgO b q) rfl fun lb h0_lb => ?_
    have hE_lb := Ext.new h0_lb (lgO b q)
    have hB_lb := Heap.put_same F4 lb (lgO b q)
    generalize F4.put lb _ = F5 at hE_lb hB_lb ⊢
    ((conv => whnf); repeat (first | (apply load_at; (conv => lhs; whnf); (with_reducible assumption); rfl; (conv => whnf)) | (apply load_at; (conv => lhs; rw [add_plain, add_plain]); (with_reducible assumption); rfl; (conv => whnf)) | (apply loads_at; (conv => lhs; whnf); (with_reducible assumption); rfl; (conv => whnf)) | (refine ⟨⟨by omega, by omega⟩, ?_⟩; (conv => whnf))))
    exact ⟨_, D, rfl, Moves.ext hE (hE04.trans hE_lb), hD, lb, rfl, fun _ => hE04.none h0_lb, (hE.trans hE04).none h0_lb, hB_lb⟩
  | some ws =>
    have hws2 : ws = ps.map pcW := by
      have := hwo (by rw [hws]; rfl)
      rw [hws] at this
      exact Option.some.inj this
    obtain ⟨hl1, hl2⟩ := hwl ws hws
    rw [hws2, List.length_map] at hl1
    rw [hws, hws2] at hO
    dsimp only at hO
    have k3 := redoWrite (hE.trans hE04) hD (newH_ext F F4) (newH_apart F4 hE) ps A c (newH_row hr fun a ha => hE03.none (hf a ha)) (fun p hp => ⟨newH_row (hps p hp).1.row fun a ha => hE03.none ((hps p hp).2 a ha), (hps p hp).1.len⟩) (by omega) (by omega)
    generalize runW dsO s (ps.map pcW) = rw_ at k3 hO
    ((conv => whnf); repeat (first | (apply load_at; (conv => lhs; whnf); (with_reducible assumption); rfl; (conv => whnf)) | (apply load_at; (conv => lhs; rw [add_plain, add_plain]); (with_reducible assumption); rfl; (conv => whnf)) | (apply loads_at; (conv => lhs; whnf); (with_reducible assumption); rfl; (conv => whnf)) | (refine ⟨⟨by omega, by omega⟩, ?_⟩; (conv => whnf))))
    refine call_of k3 ?_
    rintro v F5 ⟨rfl, D5, hM5, hD5⟩
    have hM := (Moves.ext hE hE04).trans hM5
    have hB5 := hM5.out _ _ hB4 (hE.none (hE1.none h0_t))
    have hMo := fun lb (h : F5 lb = none) (hd : D lb = none) => (show F lb = none from by
      cases e : F lb with
      | none => rfl
      | some o => rw [hM.out _ _ e hd] at h; cases h)
    obtain ⟨r1, r2⟩ := rw_
    dsimp only at hO hD5
    refine short [0, 4, 26] [.pointer (some ⟨b, 0, none⟩), .pointer (some ⟨t, 0, none⟩), .int .i64 r2] rfl fun ρ => ?_
    ((conv => whnf); repeat (first | (apply load_at; (conv => lhs; whnf); (with_reducible assumption); rfl; (conv => whnf)) | (apply load_at; (conv => lhs; rw [add_plain, add_plain]); (with_reducible assumption); rfl; (conv => whnf)) | (apply loads_at; (conv => lhs; whnf); (with_reducible assumption); rfl; (conv => whnf)) | (refine ⟨⟨by omega, by omega⟩, ?_⟩; (conv => whnf))))
    refine cond_split (fun h => ?_) (fun h => ?_)
    · have hr2 : r2 ≠ 0 := by
        have h : (r2 != 0) = true := h
        simpa using h
      rw [if_pos hr2] at hO
      subst hO
      ((conv => whnf); repeat (first | (apply load_at; (conv => lhs; whnf); (with_reducible assumption); rfl; (conv => whnf)) | (apply load_at; (conv => lhs; rw [add_plain, add_plain]); (with_reducible assumption); rfl; (conv => whnf)) | (apply loads_at; (conv => lhs; whnf); (with_reducible assumption); rfl; (conv => whnf)) | (refine ⟨⟨by omega, by omega⟩, ?_⟩; (conv => whnf))))
      exact ⟨_, D5, rfl, hM, hD5, rfl⟩
    · have hr2 : ¬ r2 ≠ 0 := by
        have h : (r2 != 0) = false := h
        simpa using h
      rw [if_neg hr2] at hO
      subst hO
      ((conv => whnf); repeat (first | (apply load_at; (conv => lhs; whnf); (with_reducible assumption); rfl; (conv => whnf)) | (apply load_at; (conv => lhs; rw [add_plain, add_plain]); (with_reducible assumption); rfl; (conv => whnf)) | (apply loads_at; (conv => lhs; whnf); (with_reducible assumption); rfl; (conv => whnf)) | (refine ⟨⟨by omega, by omega⟩, ?_⟩; (conv => whnf))))
      refine new_step (lgO b q) rfl fun lb h0_lb => ?_
      have hE_lb := Ext.new h0_lb (lgO b q)
      have hB_lb := Heap.put_same F5 lb (lgO b q)
      generalize F5.put lb _ = F6 at hE_lb hB_lb ⊢
      ((conv => whnf); repeat (first | (apply load_at; (conv => lhs; whnf); (with_reducible assumption); rfl; (conv => whnf)) | (apply load_at; (conv => lhs; rw [add_plain, add_plain]); (with_reducible assumption); rfl; (conv => whnf)) | (apply loads_at; (conv => lhs; whnf); (with_reducible assumption); rfl; (conv => whnf)) | (refine ⟨⟨by omega, by omega⟩, ?_⟩; (conv => whnf))))
      exact ⟨_, D5, rfl, hM.trans (Moves.ext hM.inn hE_lb), hD5, lb, rfl, hMo lb h0_lb, hM.inn.none h0_lb, hB_lb⟩
/-- A log that no call made. -/
def LgNo (F : Heap) (v : Value) : Prop := v = .pointer none ∨ ∃ lb q, v = .pointer (some ⟨lb, 0, none⟩) ∧ F lb = some (.cells #[.pointer none, .int .i64 q] 96)
theorem lgReady {F : Heap} {lb b : Nat} {q : Int} (h : F lb = some (lgO b q)) : FnK Tryz.prog 51 #[.pointer (some ⟨lb, 0, none⟩)] F (fun v F' => v = .bool true ∧ F' = F) := by
  (refine fn_walk tab_ok Tryz.func51 rfl rfl rfl rfl ?_; (conv => whnf))
  ((conv => whnf); repeat (first | (apply load_at; (conv => lhs; whnf); (with_reducible assumption); rfl; (conv => whnf)) | (apply load_at; (conv => lhs; rw [add_plain, add_plain]); (with_reducible assumption); rfl; (conv => whnf)) | (apply loads_at; (conv => lhs; whnf); (with_reducible assumption); rfl; (conv => whnf)) | (refine ⟨⟨by omega, by omega⟩, ?_⟩; (conv => whnf))))
  exact ⟨rfl, rfl⟩
theorem lgReadyNo {F : Heap} {v : Value} (h : LgNo F v) : FnK Tryz.prog 51 #[v] F (fun v F' => v = .bool false ∧ F' = F) := by
  rcases h with rfl | ⟨lb, q, rfl, h⟩
  · (refine fn_walk tab_ok Tryz.func51 rfl rfl rfl rfl ?_; (conv => whnf))
    exact ⟨rfl, rfl⟩
  · (refine fn_walk tab_ok Tryz.func51 rfl rfl rfl rfl ?_; (conv => whnf))
    ((conv => whnf); repeat (first | (apply load_at; (conv => lhs; whnf); (with_reducible assumption); rfl; (conv => whnf)) | (apply load_at; (conv => lhs; rw [add_plain, add_plain]); (with_reducible assumption); rfl; (conv => whnf)) | (apply loads_at; (conv => lhs; whnf); (with_reducible assumption); rfl; (conv => whnf)) | (refine ⟨⟨by omega, by omega⟩, ?_⟩; (conv => whnf))))
    exact ⟨rfl, rfl⟩
theorem lgPages {D F : Heap} {b lb : Nat} {s : DS} {q : Int} (hE : Ext D F) (hD : Dk D b s) (h : F lb = some (lgO b q)) : FnK Tryz.prog 36 #[.pointer (some ⟨lb, 0, none⟩)] F (fun v F' => v = .int .i64 (pagesN s.size) ∧ F' = F) := by
  have h1 := lgReady h
  have h2 := dk_size hE hD
  have h3 := pages s.size F
  (refine fn_walk tab_ok Tryz.func36 rfl rfl rfl rfl ?_; (conv => whnf))
  refine call_of h1 ?_
  rintro v F ⟨rfl, rfl⟩
  ((conv => whnf); repeat (first | (apply load_at; (conv => lhs; whnf); (with_reducible assumption); rfl; (conv => whnf)) | (apply load_at; (conv => lhs; rw [add_plain, add_plain]); (with_reducible assumption); rfl; (conv => whnf)) | (apply loads_at; (conv => lhs; whnf); (with_reducible assumption); rfl; (conv => whnf)) | (refine ⟨⟨by omega, by omega⟩, ?_⟩; (conv => whnf))))
  refine call_of h2 ?_
  rintro v F ⟨rfl, rfl⟩
  ((conv => whnf); repeat (first | (apply load_at; (conv => lhs; whnf); (with_reducible assumption); rfl; (conv => whnf)) | (apply load_at; (conv => lhs; rw [add_plain, add_plain]); (with_reducible assumption); rfl; (conv => whnf)) | (apply loads_at; (conv => lhs; whnf); (with_reducible assumption); rfl; (conv => whnf)) | (refine ⟨⟨by omega, by omega⟩, ?_⟩; (conv => whnf))))
  refine call_of h3 ?_
  rintro v F ⟨rfl, rfl⟩
  ((conv => whnf); repeat (first | (apply load_at; (conv => lhs; whnf); (with_reducible assumption); rfl; (conv => whnf)) | (apply load_at; (conv => lhs; rw [add_plain, add_plain]); (with_reducible assumption); rfl; (conv => whnf)) | (apply loads_at; (conv => lhs; whnf); (with_reducible assumption); rfl; (conv => whnf)) | (refine ⟨⟨by omega, by omega⟩, ?_⟩; (conv => whnf))))
  exact ⟨rfl, rfl⟩
end Go.Proofs.YtmpiggcooboenaaGreatDoor.Al
/- Logs: Load; what images may be committed. -/
namespace Go.Proofs.YtmpiggcooboenaaGreatDoor.Al
open Go Go.Al Go.Proofs Go.RowKit
set_option maxHeartbeats 8000000
set_option maxRecDepth 100000
set_option linter.unusedVariables false
set_option linter.unusedSimpArgs false
def zeros240 : List UInt8 := List.replicate 240 0
def loadE {α : Type} (o : DOps α) (a : α) (p : Int) : Int := if isPg (o.sz a) p = true then o.rdE a (homeI (o.sz a) p) else 1
def loadL {α : Type} (o : DOps α) (a : α) (p : Int) : List UInt8 :=
  if isPg (o.sz a) p = true then (if o.rdE a (homeI (o.sz a) p) ≠ 0 then [] else if unE (o.rdL a (homeI (o.sz a) p)) ≠ 0 ∨ unP (o.rdL a (homeI (o.sz a) p)) ≠ p then zeros240 else unD (o.rdL a (homeI (o.sz a) p))) else []
theorem lgLoad {D F : Heap} {b lb : Nat} {s : DS} {q : Int} (hE : Ext D F) (hD : Dk D b s) (h : F lb = some (lgO b q)) (hN : NibAt F) (p : Int) :
    FnK Tryz.prog 34 #[.pointer (some ⟨lb, 0, none⟩), .int .i64 p] F (fun v F' => ∃ u, v = .tuple #[u, .int .i64 (loadE dsO s p)] ∧ NewRow F F' u (loadL dsO s p) ∧ Ext F F') := by
  have k0 := lgReady h
  have k1 := fun F hE => dk_size (F := F) hE hD
  have k2 := fun F => home s.size p F
  have k3 := fun F hE => read (F := F) hE hD (homeI s.size p)
  have hl := read_len hD (homeI s.size p)
  have k4 := fun A c F hr hc hN => unpack (readL s (homeI s.size p)) A c F hr (by omega) hc hN
  have hLE : loadE dsO s p = if isPg s.size p = true then readE s (homeI s.size p) else 1 := rfl
  have hLL : loadL dsO s p = if isPg s.size p = true then (if readE s (homeI s.size p) ≠ 0 then [] else if unE (readL s (homeI s.size p)) ≠ 0 ∨ unP (readL s (homeI s.size p)) ≠ p then zeros240 else unD (readL s (homeI s.size p))) else [] := rfl
  generalize loadE dsO s p = le at hLE
  generalize loadL dsO s p = ll at hLL
  generalize homeI s.size p = hm at k2 k3 hl k4 hLE hLL
  generalize unP (readL s hm) = up at k4 hLL
  generalize unQ (readL s hm) = uq at k4
  generalize unE (readL s hm) = ue at k4 hLL
  generalize unD (readL s hm) = ud at k4 hLL
  generalize readL s hm = l at k3 k4 hl
  generalize readE s hm = re at k3 hLE hLL
  generalize isPg s.size p = z at k2 hLE hLL
  (refine fn_walk tab_ok Tryz.func34 rfl rfl rfl rfl ?_; (conv => whnf))
  refine call_of k0 ?_
  rintro v F ⟨rfl, rfl⟩
  ((conv => whnf); repeat (first | (apply load_at; (conv => lhs; whnf); (with_reducible assumption); rfl; (conv => whnf)) | (apply load_at; (conv => lhs; rw [add_plain, add_plain]); (with_reducible assumption); rfl; (conv => whnf)) | (apply loads_at; (conv => lhs; whnf); (with_reducible assumption); rfl; (conv => whnf)) | (refine ⟨⟨by omega, by omega⟩, ?_⟩; (conv => whnf))))
  refine call_of (k1 F hE) ?_
  rintro v F ⟨rfl, rfl⟩
  ((conv => whnf); repeat (first | (apply load_at; (conv => lhs; whnf); (with_reducible assumption); rfl; (conv => whnf)) | (apply load_at; (conv => lhs; rw [add_plain, add_plain]); (with_reducible assumption); rfl; (conv => whnf)) | (apply loads_at; (conv => lhs; whnf); (with_reducible assumption); rfl; (conv => whnf)) | (refine ⟨⟨by omega, by omega⟩, ?_⟩; (conv => whnf))))
  refine call_of (k2 F) ?_
  rintro v F1 ⟨rfl, hE1⟩
  have h1 := hE1 _ _ h
  refine short [0, 1, 23] [.pointer (some ⟨lb, 0, none⟩), .int .i64 p, .tuple #[.int .i64 hm, .bool z]] rfl fun ρ => ?_
  cases z with
  | false =>
    rw [if_neg (by decide)] at hLE hLL
    subst hLE hLL
    ((conv => whnf); repeat (first | (apply load_at; (conv => lhs; whnf); (with_reducible assumption); rfl; (conv => whnf)) | (apply load_at; (conv => lhs; rw [add_plain, add_plain]); (with_reducible assumption); rfl; (conv => whnf)) | (apply loads_at; (conv => lhs; whnf); (with_reducible assumption); rfl; (conv => whnf)) | (refine ⟨⟨by omega, by omega⟩, ?_⟩; (conv => whnf))))
    exact ⟨_, rfl, newRow_nil' _ _, hE1⟩
  | true =>
  rw [if_pos rfl] at hLE hLL
  ((conv => whnf); repeat (first | (apply load_at; (conv => lhs; whnf); (with_reducible assumption); rfl; (conv => whnf)) | (apply load_at; (conv => lhs; rw [add_plain, add_plain]); (with_reducible assumption); rfl; (conv => whnf)) | (apply loads_at; (conv => lhs; whnf); (with_reducible assumption); rfl; (conv => whnf)) | (refine ⟨⟨by omega, by omega⟩, ?_⟩; (conv => whnf))))
  refine call_of (k3 F1 (hE.trans hE1)) ?_
  rintro v F2 ⟨w, rfl, ⟨A, c, rfl, hc, hr, hf⟩, hE2⟩
  have hE02 := hE1.trans hE2
  refine short [0, 1, 34] [.pointer (some ⟨lb, 0, none⟩), .int .i64 p, .tuple #[.slice A l.length c, .int .i64 re]] rfl fun ρ => ?_
  ((conv => whnf); repeat (first | (apply load_at; (conv => lhs; whnf); (with_reducible assumption); rfl; (conv => whnf)) | (apply load_at; (conv => lhs; rw [add_plain, add_plain]); (with_reducible assumption); rfl; (conv => whnf)) | (apply loads_at; (conv => lhs; whnf); (with_reducible assumption); rfl; (conv => whnf)) | (refine ⟨⟨by omega, by omega⟩, ?_⟩; (conv => whnf))))
  refine cond_split (fun h => ?_) (fun h => ?_)
  · have he : re ≠ 0 := by
      have h : (re != 0) = true := h
      simpa using h
    rw [if_pos he] at hLL
    subst hLE hLL
    ((conv => whnf); repeat (first | (apply load_at; (conv => lhs; whnf); (with_reducible assumption); rfl; (conv => whnf)) | (apply load_at; (conv => lhs; rw [add_plain, add_plain]); (with_reducible assumption); rfl; (conv => whnf)) | (apply loads_at; (conv => lhs; whnf); (with_reducible assumption); rfl; (conv => whnf)) | (refine ⟨⟨by omega, by omega⟩, ?_⟩; (conv => whnf))))
    exact ⟨_, rfl, newRow_nil' _ _, hE02⟩
  have he : ¬ re ≠ 0 := by
    have h : (re != 0) = false := h
    simpa using h
  rw [if_neg he] at hLL
  have he0 : le = 0 := by omega
  clear h
  ((conv => whnf); repeat (first | (apply load_at; (conv => lhs; whnf); (with_reducible assumption); rfl; (conv => whnf)) | (apply load_at; (conv => lhs; rw [add_plain, add_plain]); (with_reducible assumption); rfl; (conv => whnf)) | (apply loads_at; (conv => lhs; whnf); (with_reducible assumption); rfl; (conv => whnf)) | (refine ⟨⟨by omega, by omega⟩, ?_⟩; (conv => whnf))))
  refine call_of (k4 A c F2 hr hc (hN.mono hE02)) ?_
  rintro v F3 ⟨w, rfl, hw, hE3⟩
  have hE03 := hE02.trans hE3
  subst he0
  clear hLE he
  refine short [0, 1, 42] [.pointer (some ⟨lb, 0, none⟩), .int .i64 p, .tuple #[.int .i64 up, .int .i64 uq, w, .int .i64 ue]] rfl fun ρ => ?_
  have zz : (ue ≠ 0 ∨ up ≠ p) → ∀ (G : Heap) (g : Nat), F3 g = none → G = F3.put g (.cells (List.replicate 240 (Value.int .u8 0)).toArray 5) → NewRow F G (.slice (some ⟨g, 0, none⟩) 240 240) ll ∧ Ext F G := by
    intro hh G g hg e
    rw [if_pos hh] at hLL
    subst hLL e
    refine ⟨⟨some ⟨g, 0, none⟩, 240, rfl, Nat.le_refl _, ?_, fun a ha => ?_⟩, hE03.trans (Ext.new hg _)⟩
    · have := row_blk (Heap.put_same F3 g (.cells (List.replicate 240 (Value.int .u8 0)).toArray 5))
      rw [List.toList_toArray, zeros_bytes] at this
      exact this
    · injection ha with ha
      subst ha
      exact hE03.none hg
  ((conv => whnf); repeat (first | (apply load_at; (conv => lhs; whnf); (with_reducible assumption); rfl; (conv => whnf)) | (apply load_at; (conv => lhs; rw [add_plain, add_plain]); (with_reducible assumption); rfl; (conv => whnf)) | (apply loads_at; (conv => lhs; whnf); (with_reducible assumption); rfl; (conv => whnf)) | (refine ⟨⟨by omega, by omega⟩, ?_⟩; (conv => whnf))))
  refine cond_split (fun h => ?_) (fun h => ?_)
  · have hu : (ue == 0) = true := by
      have h : (!(ue != 0)) = true := h
      simpa using h
    have hu0 : ue = 0 := by simpa using hu
    clear h
    ((conv => whnf); repeat (first | (apply load_at; (conv => lhs; whnf); (with_reducible assumption); rfl; (conv => whnf)) | (apply load_at; (conv => lhs; rw [add_plain, add_plain]); (with_reducible assumption); rfl; (conv => whnf)) | (apply loads_at; (conv => lhs; whnf); (with_reducible assumption); rfl; (conv => whnf)) | (refine ⟨⟨by omega, by omega⟩, ?_⟩; (conv => whnf))))
    refine cond_split (fun h => ?_) (fun h => ?_)
    · have hp : up ≠ p := by
        have h : (up != p) = true := h
        simpa using h
      ((conv => whnf); repeat (first | (apply load_at; (conv => lhs; whnf); (with_reducible assumption); rfl; (conv => whnf)) | (apply load_at; (conv => lhs; rw [add_plain, add_plain]); (with_reducible assumption); rfl; (conv => whnf)) | (apply loads_at; (conv => lhs; whnf); (with_reducible assumption); rfl; (conv => whnf)) | (refine ⟨⟨by omega, by omega⟩, ?_⟩; (conv => whnf))))
      refine make_one tab_ok (z0 := .int .u8 0) 240 240 rfl rfl rfl rfl rfl ⟨rfl, by decide, _, rfl, rfl⟩ (by decide) (by decide) fun g h0_g => ?_
      obtain ⟨zr, zE⟩ := zz (.inr hp) _ g h0_g rfl
      generalize F3.put g _ = F4 at zr zE ⊢
      ((conv => whnf); repeat (first | (apply load_at; (conv => lhs; whnf); (with_reducible assumption); rfl; (conv => whnf)) | (apply load_at; (conv => lhs; rw [add_plain, add_plain]); (with_reducible assumption); rfl; (conv => whnf)) | (apply loads_at; (conv => lhs; whnf); (with_reducible assumption); rfl; (conv => whnf)) | (refine ⟨⟨by omega, by omega⟩, ?_⟩; (conv => whnf))))
      exact ⟨_, rfl, zr, zE⟩
    · have hp : ¬ up ≠ p := by
        have h : (up != p) = false := h
        simpa using h
      rw [if_neg (by rintro (e | e); exact e hu0; exact hp e)] at hLL
      subst hLL
      ((conv => whnf); repeat (first | (apply load_at; (conv => lhs; whnf); (with_reducible assumption); rfl; (conv => whnf)) | (apply load_at; (conv => lhs; rw [add_plain, add_plain]); (with_reducible assumption); rfl; (conv => whnf)) | (apply loads_at; (conv => lhs; whnf); (with_reducible assumption); rfl; (conv => whnf)) | (refine ⟨⟨by omega, by omega⟩, ?_⟩; (conv => whnf))))
      obtain ⟨A', c', rfl, g1, g2, g3⟩ := hw
      exact ⟨_, rfl, ⟨A', c', rfl, g1, g2, fun a ha => hE02.none (g3 a ha)⟩, hE03⟩
  · have hu : ue ≠ 0 := by
      have h : (!(ue != 0)) = false := h
      simpa using h
    ((conv => whnf); repeat (first | (apply load_at; (conv => lhs; whnf); (with_reducible assumption); rfl; (conv => whnf)) | (apply load_at; (conv => lhs; rw [add_plain, add_plain]); (with_reducible assumption); rfl; (conv => whnf)) | (apply loads_at; (conv => lhs; whnf); (with_reducible assumption); rfl; (conv => whnf)) | (refine ⟨⟨by omega, by omega⟩, ?_⟩; (conv => whnf))))
    refine make_one tab_ok (z0 := .int .u8 0) 240 240 rfl rfl rfl rfl rfl ⟨rfl, by decide, _, rfl, rfl⟩ (by decide) (by decide) fun g h0_g => ?_
    obtain ⟨zr, zE⟩ := zz (.inl hu) _ g h0_g rfl
    generalize F3.put g _ = F4 at zr zE ⊢
    ((conv => whnf); repeat (first | (apply load_at; (conv => lhs; whnf); (with_reducible assumption); rfl; (conv => whnf)) | (apply load_at; (conv => lhs; rw [add_plain, add_plain]); (with_reducible assumption); rfl; (conv => whnf)) | (apply loads_at; (conv => lhs; whnf); (with_reducible assumption); rfl; (conv => whnf)) | (refine ⟨⟨by omega, by omega⟩, ?_⟩; (conv => whnf))))
    exact ⟨_, rfl, zr, zE⟩
abbrev imO (p : PcR) : Obj := .cells (pcC p).toArray 75
/-- Whether images may be committed. -/
def rightL (n : Int) : List (Int × List UInt8) → List Int → Bool
  | [], _ => true
  | p :: ps, seen => isPg n p.1 && ((p.2.length == 240) && (!(seen.contains p.1) && rightL n ps (p.1 :: seen)))
/-- A map of what was seen. -/
def SeenR (l : ML) (seen : List Int) : Prop := ∀ k, getM l k = if k ∈ seen then some (.bool true) else none
theorem SeenR.set {l : ML} {seen : List Int} (h : SeenR l seen) (k : Int) : SeenR (setM l k (.bool true)) (k :: seen) := fun j => by
  rw [getM_setM]
  by_cases e : j = k
  · rw [if_pos e, if_pos (by rw [e]; exact List.mem_cons_self)]
  · rw [if_neg e, h j]
    by_cases e2 : j ∈ seen
    · rw [if_pos e2, if_pos (List.mem_cons_of_mem _ e2)]
    · rw [if_neg e2, if_neg (by rw [List.mem_cons]; rintro (x | x); exact e x; exact e2 x)]
theorem lgRight {D F : Heap} {b lb : Nat} {s : DS} {q : Int} (hE : Ext D F) (hD : Dk D b s) (hlg : F lb = some (lgO b q)) (ims : List PcR) (A : Option Addr) (c : Nat) (hr : RowAt F A (rowS pcC ims)) (hl : ims.length ≤ 100000) :
    FnK Tryz.prog 52 #[.pointer (some ⟨lb, 0, none⟩), .slice A ims.length c] F (fun v F' => v = .bool (rightL s.size (ims.map pcW) []) ∧ Ext F F') := by
  obtain ⟨res, hres⟩ : ∃ r, r = rightL s.size (ims.map pcW) [] := ⟨_, rfl⟩
  have k1 := fun F hE => dk_size (F := F) hE hD
  have k2 := fun p F => home s.size p F
  rw [← hres]
  (refine fn_walk tab_ok Tryz.func52 rfl rfl rfl rfl ?_; (conv => whnf))
  refine op_makeMap rfl fun m h0_m => ?_
  have hE1 := Ext.new h0_m (.map #[] 0)
  have hm1 : MapAt (F.put m (.map #[] 0)) m [] := MapAt.put ⟨#[], 0, rfl, rfl⟩
  generalize F.put m _ = F1 at hE1 hm1 ⊢
  ((conv => whnf); repeat (first | (apply load_at; (conv => lhs; whnf); (with_reducible assumption); rfl; (conv => whnf)) | (apply load_at; (conv => lhs; rw [add_plain, add_plain]); (with_reducible assumption); rfl; (conv => whnf)) | (apply loads_at; (conv => lhs; whnf); (with_reducible assumption); rfl; (conv => whnf)) | (refine ⟨⟨by omega, by omega⟩, ?_⟩; (conv => whnf))))
  refine loop_slots [0, 5, 11, 12, 13] (fun k vs F' => ∃ (i : Nat) (seen : List Int) (l : ML), i + k = ims.length ∧ vs = [.pointer (some ⟨lb, 0, none⟩), .map (some m), .slice A ims.length c, .int .i64 (ims.length : Int), .int .i64 (i : Int)] ∧ Ext F F' ∧ MapAt F' m l ∧ SeenR l seen ∧ res = rightL s.size ((ims.drop i).map pcW) seen) ims.length ⟨0, [], [], by omega, rfl, hE1, hm1, fun k => rfl, hres⟩ ?_
  rintro k vs F2 ρ ⟨i, seen, l, hik, rfl, hE2, hm2, hS, hrs⟩
  ((conv => whnf); repeat (first | (apply load_at; (conv => lhs; whnf); (with_reducible assumption); rfl; (conv => whnf)) | (apply load_at; (conv => lhs; rw [add_plain, add_plain]); (with_reducible assumption); rfl; (conv => whnf)) | (apply loads_at; (conv => lhs; whnf); (with_reducible assumption); rfl; (conv => whnf)) | (refine ⟨⟨by omega, by omega⟩, ?_⟩; (conv => whnf))))
  refine cond_split (fun h => ?_) (fun h => ?_)
  · have hi : i < ims.length := by
      have h : decide ((i : Int) < (ims.length : Int)) = true := h
      have := of_decide_eq_true h
      omega
    obtain ⟨ad, rfl⟩ := hr.some (by rw [rowS_len pcC_len]; omega)
    have hx : ims[i]? = some ims[i] := List.getElem?_eq_getElem hi
    rw [List.drop_eq_getElem_cons hi, List.map_cons] at hrs
    have hL : ∀ K : Value → Prop, K (.agg (pcC ims[i]).toArray) → LoadsK F2 (ad.add (Int.toNat (i : Int) * 2)) 2 K := fun K hk => rowS_loads pcC_len (by decide) (hr.mono hE2) hx hk
    generalize ims[i] = p at hrs hL
    obtain ⟨pat, pl, pA, pc⟩ := p
    have k2' := k2 pat
    have hrs : res = (isPg s.size pat && ((pl.length == 240) && (!(seen.contains pat) && rightL s.size ((ims.drop (i + 1)).map pcW) (pat :: seen)))) := hrs
    generalize isPg s.size pat = z at k2' hrs
    generalize homeI s.size pat = hm at k2'
    ((conv => whnf); repeat (first | (apply load_at; (conv => lhs; whnf); (with_reducible assumption); rfl; (conv => whnf)) | (apply load_at; (conv => lhs; rw [add_plain, add_plain]); (with_reducible assumption); rfl; (conv => whnf)) | (apply loads_at; (conv => lhs; whnf); (with_reducible assumption); rfl; (conv => whnf)) | (refine ⟨⟨by omega, by omega⟩, ?_⟩; (conv => whnf))))
    refine hL _ ?_
    ((conv => whnf); repeat (first | (apply load_at; (conv => lhs; whnf); (with_reducible assumption); rfl; (conv => whnf)) | (apply load_at; (conv => lhs; rw [add_plain, add_plain]); (with_reducible assumption); rfl; (conv => whnf)) | (apply loads_at; (conv => lhs; whnf); (with_reducible assumption); rfl; (conv => whnf)) | (refine ⟨⟨by omega, by omega⟩, ?_⟩; (conv => whnf))))
    refine new_step (.cells #[.int .i64 0, .slice none 0 0] 75) rfl fun u h0_u => ?_
    have hE_u := Ext.new h0_u (.cells #[.int .i64 0, .slice none 0 0] 75)
    have hB_u := Heap.put_same F2 u (.cells #[.int .i64 0, .slice none 0 0] 75)
    generalize F2.put u _ = F3 at hE_u hB_u ⊢
    ((conv => whnf); repeat (first | (apply load_at; (conv => lhs; whnf); (with_reducible assumption); rfl; (conv => whnf)) | (apply load_at; (conv => lhs; rw [add_plain, add_plain]); (with_reducible assumption); rfl; (conv => whnf)) | (apply loads_at; (conv => lhs; whnf); (with_reducible assumption); rfl; (conv => whnf)) | (refine ⟨⟨by omega, by omega⟩, ?_⟩; (conv => whnf))))
    refine store_step u 0 _ (pcC ⟨pat, pl, pA, pc⟩).toArray rfl hB_u rfl rfl (.inl (Nat.le_refl 0)) (pc_one ⟨pat, pl, pA, pc⟩) ?_
    have hB4 := Heap.put_same F3 u (imO ⟨pat, pl, pA, pc⟩)
    have hE4 : Ext F2 (F3.put u (imO ⟨pat, pl, pA, pc⟩)) := hE_u.put h0_u _
    generalize F3.put u _ = F4 at hB4 hE4 ⊢
    have hE04 := hE2.trans hE4
    have hlg4 := hE04 _ _ hlg
    have hm4 := hm2.mono hE4
    refine short [0, 5, 7, 11, 12, 13] [.pointer (some ⟨lb, 0, none⟩), .map (some m), .pointer (some ⟨u, 0, none⟩), .slice (some ad) ims.length c, .int .i64 (ims.length : Int), .int .i64 (i : Int)] rfl fun ρ => ?_
    ((conv => whnf); repeat (first | (apply load_at; (conv => lhs; whnf); (with_reducible assumption); rfl; (conv => whnf)) | (apply load_at; (conv => lhs; rw [add_plain, add_plain]); (with_reducible assumption); rfl; (conv => whnf)) | (apply loads_at; (conv => lhs; whnf); (with_reducible assumption); rfl; (conv => whnf)) | (refine ⟨⟨by omega, by omega⟩, ?_⟩; (conv => whnf))))
    refine draw_tree tab_ok (by kernel_rfl) [] (DT.row [0, 1, 2, 3, 5, 6, 4, 7, 8, 9, 10, 11, 12] .nil) (by kernel_rfl) ?_
    ((conv => whnf); repeat (first | (apply load_at; (conv => lhs; whnf); (with_reducible assumption); rfl; (conv => whnf)) | (apply load_at; (conv => lhs; rw [add_plain, add_plain]); (with_reducible assumption); rfl; (conv => whnf)) | (apply loads_at; (conv => lhs; whnf); (with_reducible assumption); rfl; (conv => whnf)) | (refine ⟨⟨by omega, by omega⟩, ?_⟩; (conv => whnf))))
    refine call_of (k1 F4 (hE.trans hE04)) ?_
    rintro v F4 ⟨rfl, rfl⟩
    ((conv => whnf); repeat (first | (apply load_at; (conv => lhs; whnf); (with_reducible assumption); rfl; (conv => whnf)) | (apply load_at; (conv => lhs; rw [add_plain, add_plain]); (with_reducible assumption); rfl; (conv => whnf)) | (apply loads_at; (conv => lhs; whnf); (with_reducible assumption); rfl; (conv => whnf)) | (refine ⟨⟨by omega, by omega⟩, ?_⟩; (conv => whnf))))
    refine ⟨Ext.refl _, ?_⟩
    ((conv => whnf); repeat (first | (apply load_at; (conv => lhs; whnf); (with_reducible assumption); rfl; (conv => whnf)) | (apply load_at; (conv => lhs; rw [add_plain, add_plain]); (with_reducible assumption); rfl; (conv => whnf)) | (apply loads_at; (conv => lhs; whnf); (with_reducible assumption); rfl; (conv => whnf)) | (refine ⟨⟨by omega, by omega⟩, ?_⟩; (conv => whnf))))
    refine ⟨Ext.refl _, ?_⟩
    ((conv => whnf); repeat (first | (apply load_at; (conv => lhs; whnf); (with_reducible assumption); rfl; (conv => whnf)) | (apply load_at; (conv => lhs; rw [add_plain, add_plain]); (with_reducible assumption); rfl; (conv => whnf)) | (apply loads_at; (conv => lhs; whnf); (with_reducible assumption); rfl; (conv => whnf)) | (refine ⟨⟨by omega, by omega⟩, ?_⟩; (conv => whnf))))
    refine call_of (k2' F4) ?_
    rintro v F5 ⟨rfl, hE5⟩
    have hE05 := hE04.trans hE5
    have hB5 := hE5 _ _ hB4
    have hm5 := hm4.mono hE5
    ((conv => whnf); repeat (first | (apply load_at; (conv => lhs; whnf); (with_reducible assumption); rfl; (conv => whnf)) | (apply load_at; (conv => lhs; rw [add_plain, add_plain]); (with_reducible assumption); rfl; (conv => whnf)) | (apply loads_at; (conv => lhs; whnf); (with_reducible assumption); rfl; (conv => whnf)) | (refine ⟨⟨by omega, by omega⟩, ?_⟩; (conv => whnf))))
    refine ⟨hE5, ?_⟩
    ((conv => whnf); repeat (first | (apply load_at; (conv => lhs; whnf); (with_reducible assumption); rfl; (conv => whnf)) | (apply load_at; (conv => lhs; rw [add_plain, add_plain]); (with_reducible assumption); rfl; (conv => whnf)) | (apply loads_at; (conv => lhs; whnf); (with_reducible assumption); rfl; (conv => whnf)) | (refine ⟨⟨by omega, by omega⟩, ?_⟩; (conv => whnf))))
    cases z with
    | false =>
      obtain rfl : res = false := hrs
      ((conv => whnf); repeat (first | (apply load_at; (conv => lhs; whnf); (with_reducible assumption); rfl; (conv => whnf)) | (apply load_at; (conv => lhs; rw [add_plain, add_plain]); (with_reducible assumption); rfl; (conv => whnf)) | (apply loads_at; (conv => lhs; whnf); (with_reducible assumption); rfl; (conv => whnf)) | (refine ⟨⟨by omega, by omega⟩, ?_⟩; (conv => whnf))))
      exact ⟨rfl, hE05⟩
    | true =>
    rw [Bool.true_and] at hrs
    ((conv => whnf); repeat (first | (apply load_at; (conv => lhs; whnf); (with_reducible assumption); rfl; (conv => whnf)) | (apply load_at; (conv => lhs; rw [add_plain, add_plain]); (with_reducible assumption); rfl; (conv => whnf)) | (apply loads_at; (conv => lhs; whnf); (with_reducible assumption); rfl; (conv => whnf)) | (refine ⟨⟨by omega, by omega⟩, ?_⟩; (conv => whnf))))
    refine cond_split (fun h => ?_) (fun h => ?_)
    rotate_left
    · have hq : ¬ pl.length = 240 := by
        have h : (!((pl.length : Int) != 240)) = false := h
        simp only [Bool.not_eq_false', bne_iff_ne, ne_eq] at h
        omega
      rw [show (pl.length == 240) = false by simpa using hq, Bool.false_and] at hrs
      subst hrs
      ((conv => whnf); repeat (first | (apply load_at; (conv => lhs; whnf); (with_reducible assumption); rfl; (conv => whnf)) | (apply load_at; (conv => lhs; rw [add_plain, add_plain]); (with_reducible assumption); rfl; (conv => whnf)) | (apply loads_at; (conv => lhs; whnf); (with_reducible assumption); rfl; (conv => whnf)) | (refine ⟨⟨by omega, by omega⟩, ?_⟩; (conv => whnf))))
      exact ⟨rfl, hE05⟩
    have hq : pl.length = 240 := by
      have h : (!((pl.length : Int) != 240)) = true := h
      simp only [Bool.not_eq_true', bne_eq_false_iff_eq] at h
      omega
    rw [show (pl.length == 240) = true by simpa using hq, Bool.true_and] at hrs
    clear h
    ((conv => whnf); repeat (first | (apply load_at; (conv => lhs; whnf); (with_reducible assumption); rfl; (conv => whnf)) | (apply load_at; (conv => lhs; rw [add_plain, add_plain]); (with_reducible assumption); rfl; (conv => whnf)) | (apply loads_at; (conv => lhs; whnf); (with_reducible assumption); rfl; (conv => whnf)) | (refine ⟨⟨by omega, by omega⟩, ?_⟩; (conv => whnf))))
    have hlk := hS pat
    by_cases hmem : pat ∈ seen
    · rw [if_pos hmem] at hlk
      rw [show seen.contains pat = true by simpa using hmem] at hrs
      obtain rfl : res = false := hrs
      refine op_lookup_at tab_ok rfl rfl rfl rfl rfl rfl rfl hm5 hlk ?_
      ((conv => whnf); repeat (first | (apply load_at; (conv => lhs; whnf); (with_reducible assumption); rfl; (conv => whnf)) | (apply load_at; (conv => lhs; rw [add_plain, add_plain]); (with_reducible assumption); rfl; (conv => whnf)) | (apply loads_at; (conv => lhs; whnf); (with_reducible assumption); rfl; (conv => whnf)) | (refine ⟨⟨by omega, by omega⟩, ?_⟩; (conv => whnf))))
      exact ⟨rfl, hE05⟩
    · rw [if_neg hmem] at hlk
      rw [show seen.contains pat = false by simpa using hmem, Bool.not_false, Bool.true_and] at hrs
      refine op_lookup_at tab_ok rfl rfl rfl rfl rfl rfl rfl hm5 hlk ?_
      ((conv => whnf); repeat (first | (apply load_at; (conv => lhs; whnf); (with_reducible assumption); rfl; (conv => whnf)) | (apply load_at; (conv => lhs; rw [add_plain, add_plain]); (with_reducible assumption); rfl; (conv => whnf)) | (apply loads_at; (conv => lhs; whnf); (with_reducible assumption); rfl; (conv => whnf)) | (refine ⟨⟨by omega, by omega⟩, ?_⟩; (conv => whnf))))
      refine op_mapUpdate (t := 134) (kt := 3) (et := 4) (v := .bool true) (k := pat) tab_ok rfl rfl rfl rfl rfl rfl hm5 fun o' ho => ?_
      have hE6 : Ext F (F5.put m o') := hE05.put h0_m _
      have hm6 : MapAt (F5.put m o') m (setM l pat (.bool true)) := MapAt.put ho
      generalize F5.put m o' = F6 at hE6 hm6 ⊢
      ((conv => whnf); repeat (first | (apply load_at; (conv => lhs; whnf); (with_reducible assumption); rfl; (conv => whnf)) | (apply load_at; (conv => lhs; rw [add_plain, add_plain]); (with_reducible assumption); rfl; (conv => whnf)) | (apply loads_at; (conv => lhs; whnf); (with_reducible assumption); rfl; (conv => whnf)) | (refine ⟨⟨by omega, by omega⟩, ?_⟩; (conv => whnf))))
      refine ⟨k - 1, by omega, i + 1, pat :: seen, setM l pat (.bool true), by omega, ?_, hE6, hm6, hS.set pat, hrs⟩
      rw [← wrap_succ (j := i) (by omega)]
      rfl
  · have hi : i = ims.length := by
      have := of_decide_eq_false h
      omega
    subst hi
    rw [List.drop_length] at hrs
    obtain rfl : res = true := hrs
    ((conv => whnf); repeat (first | (apply load_at; (conv => lhs; whnf); (with_reducible assumption); rfl; (conv => whnf)) | (apply load_at; (conv => lhs; rw [add_plain, add_plain]); (with_reducible assumption); rfl; (conv => whnf)) | (apply loads_at; (conv => lhs; whnf); (with_reducible assumption); rfl; (conv => whnf)) | (refine ⟨⟨by omega, by omega⟩, ?_⟩; (conv => whnf))))
    exact ⟨rfl, hE2⟩
end Go.Proofs.YtmpiggcooboenaaGreatDoor.Al
/- Logs: pieces. -/
namespace Go.Proofs.YtmpiggcooboenaaGreatDoor.Al
open Go Go.Al Go.Proofs Go.RowKit
set_option maxHeartbeats 8000000
set_option maxRecDepth 100000
set_option linter.unusedVariables false
set_option linter.unusedSimpArgs false
def logW (n q : Int) : Nat → List (Int × List UInt8) → List (Int × List UInt8)
  | _, [] => []
  | i, p :: ps => (slotI n (i : Int), packB p.1 q p.2) :: logW n q (i + 1) ps
def homW (n q : Int) (ps : List (Int × List UInt8)) : List (Int × List UInt8) := ps.map fun p => (homeI n p.1, packB p.1 q p.2)
theorem packB_le (p q : Int) (d : List UInt8) : (packB p q d).length ≤ 256 := by
  by_cases h : packY p q d = true
  · rw [packB_len h]; exact Nat.le_refl _
  · unfold packB; rw [if_neg h]; exact Nat.zero_le _
theorem rowS_app (ps : List PcR) (p : PcR) : rowS pcC (ps ++ [p]) = rowS pcC ps ++ rowS pcC [p] := by unfold rowS; rw [List.flatMap_append]
/-- Two rows of pieces of the call's own, and what the pieces hold. -/
structure TwoK (F F1 : Heap) (S T : Value) (ps hs : List PcR) (G : Heap) : Prop where
  s : Mine F F1 S 117 2 ps.length (rowS pcC ps)
  t : Mine F F1 T 117 2 hs.length (rowS pcC hs)
  ne : ∀ k, blk S = some k → blk T ≠ some k
  base : Ext G F1
  outS : ∀ k, blk S = some k → G k = none
  outT : ∀ k, blk T = some k → G k = none
  ok : ∀ p ∈ ps ++ hs, PcOk G p ∧ ∀ a, p.A = some a → F a.block = none
theorem TwoK.grow {F F1 F2 G : Heap} {S T : Value} {ps hs : List PcR} (h : TwoK F F1 S T ps hs G) (hE : Ext F1 F2) : TwoK F F2 S T ps hs (gain G F1 F2) := by
  have hb : ∀ {k}, F1 k ≠ none → gain G F1 F2 k = G k := fun {k} hk => by
    cases e : F1 k with
    | none => exact absurd e hk
    | some o => exact gain_old e
  refine ⟨h.s.mono hE, h.t.mono hE, h.ne, fun z o hz => ?_, fun k hk => by rw [hb (h.s.own.there hk)]; exact h.outS k hk, fun k hk => by rw [hb (h.t.own.there hk)]; exact h.outT k hk, fun p hp => ⟨(h.ok p hp).1.mono (gain_ext h.base), (h.ok p hp).2⟩⟩
  cases e : F1 z with
  | none => rw [gain_new e] at hz; exact hz
  | some u => rw [gain_old e] at hz; exact hE _ _ (h.base _ _ hz)
theorem TwoK.ext {F F1 F2 G : Heap} {S T : Value} {ps hs : List PcR} (h : TwoK F F1 S T ps hs G) (hE : Ext F1 F2) : TwoK F F2 S T ps hs G :=
  ⟨h.s.mono hE, h.t.mono hE, h.ne, h.base.trans hE, h.outS, h.outT, h.ok⟩
theorem TwoK.pushS {F F1 F2 G : Heap} {S T S2 : Value} {ps hs : List PcR} (h : TwoK F F1 S T ps hs G) {p : PcR} (hp : PcOk G p ∧ ∀ a, p.A = some a → F a.block = none)
    (hO : Own F2 S2 117 2 (ps.length + 1) (rowS pcC ps ++ rowS pcC [p])) (hk : Keeps F1 F2 (blk S)) (hf : ∀ b, blk S2 = some b → blk S = some b ∨ F1 b = none) : TwoK F F2 S2 T (ps ++ [p]) hs G := by
  refine ⟨?_, ⟨h.t.own.of_blk fun k o hk' ho => hk k o ho fun e => h.ne k e hk', h.t.fresh, hk.ext h.s.ext h.s.fresh⟩, fun k hk' => ?_, hk.ext h.base h.outS, fun k hk' => ?_, h.outT, fun x hx => ?_⟩
  · rw [rowS_app, List.length_append]
    refine ⟨hO, fun k hk' => ?_, hk.ext h.s.ext h.s.fresh⟩
    rcases hf k hk' with e | e
    · exact h.s.fresh k e
    · exact h.s.ext.none e
  · rcases hf k hk' with e | e
    · exact h.ne k e
    · exact fun e2 => h.t.own.there e2 e
  · rcases hf k hk' with e | e
    · exact h.outS k e
    · exact h.base.none e
  · rw [List.append_assoc, List.mem_append] at hx
    rcases hx with hx | hx
    · exact h.ok x (List.mem_append_left _ hx)
    · rcases List.mem_append.1 hx with hx | hx
      · rw [List.mem_singleton] at hx; subst hx; exact hp
      · exact h.ok x (List.mem_append_right _ hx)
theorem TwoK.swap {F F1 G : Heap} {S T : Value} {ps hs : List PcR} (h : TwoK F F1 S T ps hs G) : TwoK F F1 T S hs ps G :=
  ⟨h.t, h.s, fun k hk e => h.ne k e hk, h.base, h.outT, h.outS, fun p hp => h.ok p (by rw [List.mem_append] at hp ⊢; exact hp.symm)⟩
theorem clip (n : Nat) (A : Option Addr) (c : Nat) (hn : n ≤ c) (F : Heap) : FnK Tryz.prog 80 #[.slice A n c] F (fun v F' => v = .slice A n n ∧ F' = F) := by
  (refine fn_walk tab_ok Tryz.func80 rfl rfl rfl rfl ?_; (conv => whnf))
  refine ⟨⟨by omega, by omega⟩, ?_⟩
  ((conv => whnf); repeat (first | (apply load_at; (conv => lhs; whnf); (with_reducible assumption); rfl; (conv => whnf)) | (apply load_at; (conv => lhs; rw [add_plain, add_plain]); (with_reducible assumption); rfl; (conv => whnf)) | (apply loads_at; (conv => lhs; whnf); (with_reducible assumption); rfl; (conv => whnf)) | (refine ⟨⟨by omega, by omega⟩, ?_⟩; (conv => whnf))))
  refine ⟨?_, rfl⟩
  conv => lhs; whnf
  refine slice_eq ?_ ?_ ?_
  · split
    · rfl
    · cases A with
      | none => rfl
      | some a =>
        rw [Nat.zero_mul]
        rfl
  · exact Int.toNat_natCast n
  · exact Int.toNat_natCast n
theorem lgPieces {D F : Heap} {b lb : Nat} {s : DS} {q0 : Int} (hE : Ext D F) (hD : Dk D b s) (hlg : F lb = some (lgO b q0)) (hN : NibAt F) (ims : List PcR) (A : Option Addr) (c : Nat) (hr : RowAt F A (rowS pcC ims)) (hp : ∀ p ∈ ims, PcOk F p) (hl : ims.length ≤ 100000) (q : Int) :
    FnK Tryz.prog 53 #[.pointer (some ⟨lb, 0, none⟩), .slice A ims.length c, .int .i64 q] F (fun v F' => (∃ (ps hs : List PcR) (A1 A2 : Option Addr) (c1 c2 : Nat), v = .tuple #[.slice A1 ps.length c1, .slice A2 hs.length c2] ∧ RowAt F' A1 (rowS pcC ps) ∧ RowAt F' A2 (rowS pcC hs) ∧ (∀ a, A1 = some a → F a.block = none) ∧ (∀ a, A2 = some a → F a.block = none) ∧ (∀ p ∈ ps ++ hs, PcOk F' p ∧ ∀ a, p.A = some a → F a.block = none) ∧ ps.map pcW = logW s.size q 0 (ims.map pcW) ∧ hs.map pcW = homW s.size q (ims.map pcW)) ∧ Ext F F') := by
  obtain ⟨rl, hrl⟩ : ∃ r, r = logW s.size q 0 (ims.map pcW) := ⟨_, rfl⟩
  obtain ⟨rh, hrh⟩ : ∃ r, r = homW s.size q (ims.map pcW) := ⟨_, rfl⟩
  have k1 := fun F hE => dk_size (F := F) hE hD
  have k2 := fun p F => home s.size p F
  have k3 := fun i F => slot s.size i F
  have k4 := fun p d A c F hr hl hN => pack p q d A c F hr hl hN
  rw [← hrl, ← hrh]
  (refine fn_walk tab_ok Tryz.func53 rfl rfl rfl rfl ?_; (conv => whnf))
  refine loop_slots [0, 2, 8, 9, 18, 19, 20] (fun k vs F' => ∃ (i : Nat) (S T : Value) (ps hs : List PcR) (G : Heap), i + k = ims.length ∧ ps.length = i ∧ hs.length = i ∧ vs = [.pointer (some ⟨lb, 0, none⟩), .int .i64 q, S, T, .slice A ims.length c, .int .i64 (ims.length : Int), .int .i64 (i : Int)] ∧ TwoK F F' S T ps hs G ∧ Ext F G ∧ rl = ps.map pcW ++ logW s.size q i ((ims.drop i).map pcW) ∧ rh = hs.map pcW ++ homW s.size q ((ims.drop i).map pcW)) ims.length ⟨0, .slice none 0 0, .slice none 0 0, [], [], F, by omega, rfl, rfl, rfl, ⟨Mine.nil _ _ _ _ (Ext.refl _), Mine.nil _ _ _ _ (Ext.refl _), (fun k h => by cases h), Ext.refl _, (fun k h => by cases h), (fun k h => by cases h), fun p h => by cases h⟩, Ext.refl _, hrl, hrh⟩ ?_
  rintro k vs F2 ρ ⟨i, S, T, ps, hs, G, hik, hpi, hhi, rfl, hT, hFG, hw1, hw2⟩
  have hE2 := hT.s.ext
  ((conv => whnf); repeat (first | (apply load_at; (conv => lhs; whnf); (with_reducible assumption); rfl; (conv => whnf)) | (apply load_at; (conv => lhs; rw [add_plain, add_plain]); (with_reducible assumption); rfl; (conv => whnf)) | (apply loads_at; (conv => lhs; whnf); (with_reducible assumption); rfl; (conv => whnf)) | (refine ⟨⟨by omega, by omega⟩, ?_⟩; (conv => whnf))))
  refine cond_split (fun h => ?_) (fun h => ?_)
  · have hi : i < ims.length := by
      have h : decide ((i : Int) < (ims.length : Int)) = true := h
      have := of_decide_eq_true h
      omega
    obtain ⟨ad, rfl⟩ := hr.some (by rw [rowS_len pcC_len]; omega)
    have hx : ims[i]? = some ims[i] := List.getElem?_eq_getElem hi
    have hpo := hp _ (List.getElem_mem hi)
    rw [List.drop_eq_getElem_cons hi, List.map_cons] at hw1 hw2
    have hL : ∀ K : Value → Prop, K (.agg (pcC ims[i]).toArray) → LoadsK F2 (ad.add (Int.toNat (i : Int) * 2)) 2 K := fun K hk => rowS_loads pcC_len (by decide) (hr.mono hE2) hx hk
    generalize ims[i] = p at hw1 hw2 hL hpo
    obtain ⟨pat, pl, pA, pc⟩ := p
    have hrow : RowAt F pA (bytesOf pl) := hpo.row
    have hlen : pl.length ≤ 900000 := hpo.len
    have k2' := k2 pat
    have k3' := k3 (i : Int)
    have k4' := k4 pat pl pA pc
    have hle := packB_le pat q pl
    replace hw1 : rl = ps.map pcW ++ ((slotI s.size (i : Int), packB pat q pl) :: logW s.size q (i + 1) ((ims.drop (i + 1)).map pcW)) := hw1
    replace hw2 : rh = hs.map pcW ++ ((homeI s.size pat, packB pat q pl) :: homW s.size q ((ims.drop (i + 1)).map pcW)) := hw2
    generalize slotI s.size (i : Int) = si at k3' hw1
    generalize isPg s.size (i : Int) = zi at k3'
    generalize homeI s.size pat = hm at k2' hw2
    generalize isPg s.size pat = zh at k2'
    generalize packB pat q pl = pb at k4' hw1 hw2 hle
    generalize packE pat q pl = pe at k4'
    ((conv => whnf); repeat (first | (apply load_at; (conv => lhs; whnf); (with_reducible assumption); rfl; (conv => whnf)) | (apply load_at; (conv => lhs; rw [add_plain, add_plain]); (with_reducible assumption); rfl; (conv => whnf)) | (apply loads_at; (conv => lhs; whnf); (with_reducible assumption); rfl; (conv => whnf)) | (refine ⟨⟨by omega, by omega⟩, ?_⟩; (conv => whnf))))
    refine hL _ ?_
    ((conv => whnf); repeat (first | (apply load_at; (conv => lhs; whnf); (with_reducible assumption); rfl; (conv => whnf)) | (apply load_at; (conv => lhs; rw [add_plain, add_plain]); (with_reducible assumption); rfl; (conv => whnf)) | (apply loads_at; (conv => lhs; whnf); (with_reducible assumption); rfl; (conv => whnf)) | (refine ⟨⟨by omega, by omega⟩, ?_⟩; (conv => whnf))))
    refine new_step (.cells #[.int .i64 0, .slice none 0 0] 75) rfl fun u h0_u => ?_
    have hE_u := Ext.new h0_u (.cells #[.int .i64 0, .slice none 0 0] 75)
    have hB_u := Heap.put_same F2 u (.cells #[.int .i64 0, .slice none 0 0] 75)
    generalize F2.put u _ = F3 at hE_u hB_u ⊢
    ((conv => whnf); repeat (first | (apply load_at; (conv => lhs; whnf); (with_reducible assumption); rfl; (conv => whnf)) | (apply load_at; (conv => lhs; rw [add_plain, add_plain]); (with_reducible assumption); rfl; (conv => whnf)) | (apply loads_at; (conv => lhs; whnf); (with_reducible assumption); rfl; (conv => whnf)) | (refine ⟨⟨by omega, by omega⟩, ?_⟩; (conv => whnf))))
    refine store_step u 0 _ (pcC ⟨pat, pl, pA, pc⟩).toArray rfl hB_u rfl rfl (.inl (Nat.le_refl 0)) (pc_one ⟨pat, pl, pA, pc⟩) ?_
    have hB4 := Heap.put_same F3 u (imO ⟨pat, pl, pA, pc⟩)
    have hE4 : Ext F2 (F3.put u (imO ⟨pat, pl, pA, pc⟩)) := hE_u.put h0_u _
    generalize F3.put u _ = F4 at hB4 hE4 ⊢
    have hE04 := hE2.trans hE4
    refine short [0, 2, 8, 9, 10, 11, 18, 19, 20] [.pointer (some ⟨lb, 0, none⟩), .int .i64 q, S, T, .int .i64 (i : Int), .pointer (some ⟨u, 0, none⟩), .slice (some ad) ims.length c, .int .i64 (ims.length : Int), .int .i64 (i : Int)] rfl fun ρ => ?_
    ((conv => whnf); repeat (first | (apply load_at; (conv => lhs; whnf); (with_reducible assumption); rfl; (conv => whnf)) | (apply load_at; (conv => lhs; rw [add_plain, add_plain]); (with_reducible assumption); rfl; (conv => whnf)) | (apply loads_at; (conv => lhs; whnf); (with_reducible assumption); rfl; (conv => whnf)) | (refine ⟨⟨by omega, by omega⟩, ?_⟩; (conv => whnf))))
    refine call_of (k4' F4 (hrow.mono hE04) hlen (hN.mono hE04)) ?_
    rintro v F5 ⟨w, rfl, ⟨B, bc, rfl, hbc, hbr, hbf⟩, hE5⟩
    have hE05 := hE04.trans hE5
    have hlg5 := hE05 _ _ hlg
    refine short [0, 2, 8, 9, 10, 11, 18, 19, 20, 31] [.pointer (some ⟨lb, 0, none⟩), .int .i64 q, S, T, .int .i64 (i : Int), .pointer (some ⟨u, 0, none⟩), .slice (some ad) ims.length c, .int .i64 (ims.length : Int), .int .i64 (i : Int), .tuple #[.slice B pb.length bc, .int .i64 pe]] rfl fun ρ => ?_
    ((conv => whnf); repeat (first | (apply load_at; (conv => lhs; whnf); (with_reducible assumption); rfl; (conv => whnf)) | (apply load_at; (conv => lhs; rw [add_plain, add_plain]); (with_reducible assumption); rfl; (conv => whnf)) | (apply loads_at; (conv => lhs; whnf); (with_reducible assumption); rfl; (conv => whnf)) | (refine ⟨⟨by omega, by omega⟩, ?_⟩; (conv => whnf))))
    refine call_of (k1 F5 (hE.trans hE05)) ?_
    rintro v F5 ⟨rfl, rfl⟩
    ((conv => whnf); repeat (first | (apply load_at; (conv => lhs; whnf); (with_reducible assumption); rfl; (conv => whnf)) | (apply load_at; (conv => lhs; rw [add_plain, add_plain]); (with_reducible assumption); rfl; (conv => whnf)) | (apply loads_at; (conv => lhs; whnf); (with_reducible assumption); rfl; (conv => whnf)) | (refine ⟨⟨by omega, by omega⟩, ?_⟩; (conv => whnf))))
    refine call_of (k3' F5) ?_
    rintro v F6 ⟨rfl, hE6⟩
    have hE06 := hE05.trans hE6
    have hlg6 := hE6 _ _ hlg5
    have hB6 := hE6 _ _ (hE5 _ _ hB4)
    refine short [0, 2, 8, 9, 11, 12, 18, 19, 20, 41] [.pointer (some ⟨lb, 0, none⟩), .int .i64 q, S, T, .pointer (some ⟨u, 0, none⟩), .slice B pb.length bc, .slice (some ad) ims.length c, .int .i64 (ims.length : Int), .int .i64 (i : Int), .tuple #[.int .i64 si, .bool zi]] rfl fun ρ => ?_
    ((conv => whnf); repeat (first | (apply load_at; (conv => lhs; whnf); (with_reducible assumption); rfl; (conv => whnf)) | (apply load_at; (conv => lhs; rw [add_plain, add_plain]); (with_reducible assumption); rfl; (conv => whnf)) | (apply loads_at; (conv => lhs; whnf); (with_reducible assumption); rfl; (conv => whnf)) | (refine ⟨⟨by omega, by omega⟩, ?_⟩; (conv => whnf))))
    refine draw_tree tab_ok (by kernel_rfl) [] (DT.row [0, 1, 2, 3, 5, 6, 4, 7, 8, 9, 10, 11, 12] .nil) (by kernel_rfl) ?_
    ((conv => whnf); repeat (first | (apply load_at; (conv => lhs; whnf); (with_reducible assumption); rfl; (conv => whnf)) | (apply load_at; (conv => lhs; rw [add_plain, add_plain]); (with_reducible assumption); rfl; (conv => whnf)) | (apply loads_at; (conv => lhs; whnf); (with_reducible assumption); rfl; (conv => whnf)) | (refine ⟨⟨by omega, by omega⟩, ?_⟩; (conv => whnf))))
    refine call_of (k1 F6 (hE.trans hE06)) ?_
    rintro v F6 ⟨rfl, rfl⟩
    ((conv => whnf); repeat (first | (apply load_at; (conv => lhs; whnf); (with_reducible assumption); rfl; (conv => whnf)) | (apply load_at; (conv => lhs; rw [add_plain, add_plain]); (with_reducible assumption); rfl; (conv => whnf)) | (apply loads_at; (conv => lhs; whnf); (with_reducible assumption); rfl; (conv => whnf)) | (refine ⟨⟨by omega, by omega⟩, ?_⟩; (conv => whnf))))
    refine ⟨Ext.refl _, ?_⟩
    ((conv => whnf); repeat (first | (apply load_at; (conv => lhs; whnf); (with_reducible assumption); rfl; (conv => whnf)) | (apply load_at; (conv => lhs; rw [add_plain, add_plain]); (with_reducible assumption); rfl; (conv => whnf)) | (apply loads_at; (conv => lhs; whnf); (with_reducible assumption); rfl; (conv => whnf)) | (refine ⟨⟨by omega, by omega⟩, ?_⟩; (conv => whnf))))
    refine ⟨Ext.refl _, ?_⟩
    ((conv => whnf); repeat (first | (apply load_at; (conv => lhs; whnf); (with_reducible assumption); rfl; (conv => whnf)) | (apply load_at; (conv => lhs; rw [add_plain, add_plain]); (with_reducible assumption); rfl; (conv => whnf)) | (apply loads_at; (conv => lhs; whnf); (with_reducible assumption); rfl; (conv => whnf)) | (refine ⟨⟨by omega, by omega⟩, ?_⟩; (conv => whnf))))
    refine call_of (k2' F6) ?_
    rintro v F7 ⟨rfl, hE7⟩
    ((conv => whnf); repeat (first | (apply load_at; (conv => lhs; whnf); (with_reducible assumption); rfl; (conv => whnf)) | (apply load_at; (conv => lhs; rw [add_plain, add_plain]); (with_reducible assumption); rfl; (conv => whnf)) | (apply loads_at; (conv => lhs; whnf); (with_reducible assumption); rfl; (conv => whnf)) | (refine ⟨⟨by omega, by omega⟩, ?_⟩; (conv => whnf))))
    refine ⟨hE7, ?_⟩
    have hE57 := hE6.trans hE7
    have hT7 := (hT.grow (hE4.trans (hE5.trans hE57)))
    have hpk7 : ∀ x : Int, PcOk (gain G F2 F7) ⟨x, pb, B, bc⟩ ∧ ∀ a, B = some a → F a.block = none := fun x => ⟨⟨rowAt_gain (hbr.mono hE57) fun a ha => hE4.none (hbf a ha), by show pb.length ≤ 900000; omega⟩, fun a ha => hE04.none (hbf a ha)⟩
    ((conv => whnf); repeat (first | (apply load_at; (conv => lhs; whnf); (with_reducible assumption); rfl; (conv => whnf)) | (apply load_at; (conv => lhs; rw [add_plain, add_plain]); (with_reducible assumption); rfl; (conv => whnf)) | (apply loads_at; (conv => lhs; whnf); (with_reducible assumption); rfl; (conv => whnf)) | (refine ⟨⟨by omega, by omega⟩, ?_⟩; (conv => whnf))))
    refine new_step (.cells (rowS pcC [⟨si, pb, B, bc⟩]).toArray 117) rfl fun g h0_g => ?_
    have hE_g := Ext.new h0_g (.cells (rowS pcC [⟨si, pb, B, bc⟩]).toArray 117)
    have hB_g := Heap.put_same F7 g (.cells (rowS pcC [⟨si, pb, B, bc⟩]).toArray 117)
    generalize F7.put g _ = F8 at hE_g hB_g ⊢
    have hT8 := hT7.ext hE_g
    have hr8 := row_blk hB_g
    rw [List.toList_toArray] at hr8
    ((conv => whnf); repeat (first | (apply load_at; (conv => lhs; whnf); (with_reducible assumption); rfl; (conv => whnf)) | (apply load_at; (conv => lhs; rw [add_plain, add_plain]); (with_reducible assumption); rfl; (conv => whnf)) | (apply loads_at; (conv => lhs; whnf); (with_reducible assumption); rfl; (conv => whnf)) | (refine ⟨⟨by omega, by omega⟩, ?_⟩; (conv => whnf))))
    refine append_own tab_ok (s := S) (n := ps.length) (xs := rowS pcC ps) (m := 1) (ys := rowS pcC [⟨si, pb, B, bc⟩]) (y := .slice (some ⟨g, 0, none⟩) 1 1) rfl rfl rfl rfl rfl ⟨_, rfl, fun k h => by cases h⟩ ⟨_, rfl, rfl⟩ (by decide) hT8.s.own ⟨rfl, .inl ⟨_, _, rfl, hr8⟩⟩ (pc_one _) (by show 2 * (ps.length + 1) * 32 ≤ _; omega) fun S2 F9 hO9 hk9 hf9 => ?_
    have hT9 := hT8.pushS (p := ⟨si, pb, B, bc⟩) (hpk7 si) hO9 hk9 hf9
    ((conv => whnf); repeat (first | (apply load_at; (conv => lhs; whnf); (with_reducible assumption); rfl; (conv => whnf)) | (apply load_at; (conv => lhs; rw [add_plain, add_plain]); (with_reducible assumption); rfl; (conv => whnf)) | (apply loads_at; (conv => lhs; whnf); (with_reducible assumption); rfl; (conv => whnf)) | (refine ⟨⟨by omega, by omega⟩, ?_⟩; (conv => whnf))))
    refine new_step (.cells (rowS pcC [⟨hm, pb, B, bc⟩]).toArray 117) rfl fun e h0_e => ?_
    have hE_e := Ext.new h0_e (.cells (rowS pcC [⟨hm, pb, B, bc⟩]).toArray 117)
    have hB_e := Heap.put_same F9 e (.cells (rowS pcC [⟨hm, pb, B, bc⟩]).toArray 117)
    generalize F9.put e _ = F10 at hE_e hB_e ⊢
    have hT10 := (hT9.ext hE_e).swap
    have hr10 := row_blk hB_e
    rw [List.toList_toArray] at hr10
    ((conv => whnf); repeat (first | (apply load_at; (conv => lhs; whnf); (with_reducible assumption); rfl; (conv => whnf)) | (apply load_at; (conv => lhs; rw [add_plain, add_plain]); (with_reducible assumption); rfl; (conv => whnf)) | (apply loads_at; (conv => lhs; whnf); (with_reducible assumption); rfl; (conv => whnf)) | (refine ⟨⟨by omega, by omega⟩, ?_⟩; (conv => whnf))))
    refine append_own tab_ok (s := T) (n := hs.length) (xs := rowS pcC hs) (m := 1) (ys := rowS pcC [⟨hm, pb, B, bc⟩]) (y := .slice (some ⟨e, 0, none⟩) 1 1) rfl rfl rfl rfl rfl ⟨_, rfl, fun k h => by cases h⟩ ⟨_, rfl, rfl⟩ (by decide) hT10.s.own ⟨rfl, .inl ⟨_, _, rfl, hr10⟩⟩ (pc_one _) (by show 2 * (hs.length + 1) * 32 ≤ _; omega) fun T2 F11 hO11 hk11 hf11 => ?_
    have hT11 := (hT10.pushS (p := ⟨hm, pb, B, bc⟩) (hpk7 hm) hO11 hk11 hf11).swap
    ((conv => whnf); repeat (first | (apply load_at; (conv => lhs; whnf); (with_reducible assumption); rfl; (conv => whnf)) | (apply load_at; (conv => lhs; rw [add_plain, add_plain]); (with_reducible assumption); rfl; (conv => whnf)) | (apply loads_at; (conv => lhs; whnf); (with_reducible assumption); rfl; (conv => whnf)) | (refine ⟨⟨by omega, by omega⟩, ?_⟩; (conv => whnf))))
    refine ⟨k - 1, by omega, i + 1, S2, T2, ps ++ [⟨si, pb, B, bc⟩], hs ++ [⟨hm, pb, B, bc⟩], gain G F2 F7, by omega, by rw [List.length_append, hpi]; rfl, by rw [List.length_append, hhi]; rfl, ?_, hT11, hFG.trans (gain_ext hT.base), ?_, ?_⟩
    · rw [← wrap_succ (j := i) (by omega)]
      rfl
    · rw [hw1, List.map_append, List.append_assoc]
      rfl
    · rw [hw2, List.map_append, List.append_assoc]
      rfl
  · have hi : i = ims.length := by
      have := of_decide_eq_false h
      omega
    have hd : ims.drop i = [] := List.drop_of_length_le (by omega)
    rw [hd] at hw1 hw2
    replace hw1 : rl = ps.map pcW ++ [] := hw1
    replace hw2 : rh = hs.map pcW ++ [] := hw2
    rw [List.append_nil] at hw1 hw2
    obtain ⟨A1, c1, rfl, hc1, hr1⟩ := hT.s.own.row
    obtain ⟨A2, c2, rfl, hc2, hr2⟩ := hT.t.own.row
    have q1 := fun F => clip ps.length A1 c1 hc1 F
    have q2 := fun F => clip hs.length A2 c2 hc2 F
    ((conv => whnf); repeat (first | (apply load_at; (conv => lhs; whnf); (with_reducible assumption); rfl; (conv => whnf)) | (apply load_at; (conv => lhs; rw [add_plain, add_plain]); (with_reducible assumption); rfl; (conv => whnf)) | (apply loads_at; (conv => lhs; whnf); (with_reducible assumption); rfl; (conv => whnf)) | (refine ⟨⟨by omega, by omega⟩, ?_⟩; (conv => whnf))))
    refine call_of (q1 F2) ?_
    rintro v F2 ⟨rfl, rfl⟩
    ((conv => whnf); repeat (first | (apply load_at; (conv => lhs; whnf); (with_reducible assumption); rfl; (conv => whnf)) | (apply load_at; (conv => lhs; rw [add_plain, add_plain]); (with_reducible assumption); rfl; (conv => whnf)) | (apply loads_at; (conv => lhs; whnf); (with_reducible assumption); rfl; (conv => whnf)) | (refine ⟨⟨by omega, by omega⟩, ?_⟩; (conv => whnf))))
    refine call_of (q2 F2) ?_
    rintro v F2 ⟨rfl, rfl⟩
    ((conv => whnf); repeat (first | (apply load_at; (conv => lhs; whnf); (with_reducible assumption); rfl; (conv => whnf)) | (apply load_at; (conv => lhs; rw [add_plain, add_plain]); (with_reducible assumption); rfl; (conv => whnf)) | (apply loads_at; (conv => lhs; whnf); (with_reducible assumption); rfl; (conv => whnf)) | (refine ⟨⟨by omega, by omega⟩, ?_⟩; (conv => whnf))))
    exact ⟨⟨ps, hs, A1, A2, ps.length, hs.length, rfl, hr1, hr2, fun a ha => hT.s.fresh a.block (by rw [ha]; rfl), fun a ha => hT.t.fresh a.block (by rw [ha]; rfl), fun p hp' => ⟨(hT.ok p hp').1.mono hT.base, (hT.ok p hp').2⟩, hw1.symm, hw2.symm⟩, hE2⟩
end Go.Proofs.YtmpiggcooboenaaGreatDoor.Al
/- Logs: a log's part of memory; Commit. -/
namespace Go.Proofs.YtmpiggcooboenaaGreatDoor.Al
open Go Go.Al Go.Proofs Go.RowKit
set_option maxHeartbeats 8000000
set_option maxRecDepth 100000
set_option linter.unusedVariables false
set_option linter.unusedSimpArgs false
/-- What committing images makes of a disk: the disk, what is wrong, the log's number. -/
def commitS {α : Type} (o : DOps α) (a : α) (q : Int) (ps : List (Int × List UInt8)) : α × Int × Int :=
  if (ps.length : Int) > pagesN (o.sz a) then (a, 6, q) else
  if rightL (o.sz a) ps [] = false then (a, 1, q) else
  if ps.length = 0 then (a, 0, q) else
  if (runW o a (logW (o.sz a) (q + 1) 0 ps)).2 ≠ 0 then ((runW o a (logW (o.sz a) (q + 1) 0 ps)).1, (runW o a (logW (o.sz a) (q + 1) 0 ps)).2, q) else
  if (runW o (runW o a (logW (o.sz a) (q + 1) 0 ps)).1 [(0, noteB ps.length (q + 1))]).2 ≠ 0 then ((runW o (runW o a (logW (o.sz a) (q + 1) 0 ps)).1 [(0, noteB ps.length (q + 1))]).1, (runW o (runW o a (logW (o.sz a) (q + 1) 0 ps)).1 [(0, noteB ps.length (q + 1))]).2, q) else
  ((runW o (runW o (runW o a (logW (o.sz a) (q + 1) 0 ps)).1 [(0, noteB ps.length (q + 1))]).1 (homW (o.sz a) (q + 1) ps)).1, (runW o (runW o (runW o a (logW (o.sz a) (q + 1) 0 ps)).1 [(0, noteB ps.length (q + 1))]).1 (homW (o.sz a) (q + 1) ps)).2, q + 1)
theorem logW_len (n q : Int) : ∀ (i : Nat) (ps : List (Int × List UInt8)), (logW n q i ps).length = ps.length
  | _, [] => rfl
  | i, p :: ps => congrArg (· + 1) (logW_len n q (i + 1) ps)
/-- A log's part of memory: its disk's, and its own block. -/
def Lg (E : Heap) (lb b : Nat) (s : DS) (q : Int) : Prop := ∃ D, Dk D b s ∧ D lb = none ∧ E = D.put lb (lgO b q) ∧ 0 ≤ q ∧ q ≤ 4611686018427387904
theorem Lg.disk {E : Heap} {lb b : Nat} {s : DS} {q : Int} (h : Lg E lb b s q) : ∃ D, Dk D b s ∧ Ext D E ∧ E lb = some (lgO b q) := by
  obtain ⟨D, h1, h2, rfl, _⟩ := h
  exact ⟨D, h1, (Ext.refl D).put h2 _, Heap.put_same _ _ _⟩
theorem moves_withB {D F D' F' : Heap} {lb : Nat} {o : Obj} (h : Moves D F D' F') (hd : D lb = none) (hf : F lb = some o) : Moves (D.put lb o) F (D'.put lb o) F' ∧ D' lb = none := by
  have hd' : D' lb = none := by
    cases e : D' lb with
    | none => rfl
    | some u =>
      rcases h.new lb (by rw [e]; simp) with k | k
      · exact absurd hd k
      · rw [hf] at k; cases k
  have hf' := h.out _ _ hf hd
  refine ⟨⟨fun c u hc => ?_, fun c u hc hn => ?_, fun c hc => ?_⟩, hd'⟩
  · by_cases e : c = lb
    · subst e; rw [Heap.put_same] at hc; rw [hf']; exact hc
    · rw [Heap.put_other _ _ e] at hc; exact h.inn c u hc
  · by_cases e : c = lb
    · subst e; rw [Heap.put_same] at hn; cases hn
    · rw [Heap.put_other _ _ e] at hn; exact h.out c u hc hn
  · by_cases e : c = lb
    · subst e; rw [Heap.put_same]; exact .inl (by simp)
    · rw [Heap.put_other _ _ e] at hc ⊢; exact h.new c hc
theorem writeE_len {s : DS} {i : Int} {l : List UInt8} (h : writeE s i l = 0) : l.length = 256 := by
  unfold writeE at h
  split at h
  · cases h
  split at h
  · cases h
  · next h2 => simp at h2; exact h2.2
theorem packY_of {p q : Int} {d : List UInt8} (h : (packB p q d).length = 256) : packY p q d = true := by
  unfold packB at h
  split at h
  · assumption
  · cases h
theorem run_seq {s : DS} {n q : Int} {ps : List (Int × List UInt8)} (h0 : ps.length ≠ 0) (h : (runW dsO s (logW n q 0 ps)).2 = 0) (m : Nat) (hm : m ≤ 100000) : secR (m : Int) q = true := by
  cases ps with
  | nil => exact absurd rfl h0
  | cons p ps =>
    have h : (if writeE s (slotI n ((0 : Nat) : Int)) (packB p.1 q p.2) = 0 then runW dsO (writeS s (slotI n ((0 : Nat) : Int)) (packB p.1 q p.2)) (logW n q 1 ps) else (writeS s (slotI n ((0 : Nat) : Int)) (packB p.1 q p.2), writeE s (slotI n ((0 : Nat) : Int)) (packB p.1 q p.2))).2 = 0 := h
    split at h
    · next e =>
      have := packY_of (writeE_len e)
      unfold packY secR at this
      simp only [Bool.and_eq_true, decide_eq_true_eq] at this
      unfold secR inM
      rw [show Nat.beq 4 8 = false by decide, cond_false, show ((256 ^ 4 : Nat) : Int) = 4294967296 by decide]
      simp only [Bool.and_eq_true, decide_eq_true_eq]
      exact ⟨by omega, this.1.2.1, this.1.2.2⟩
    · next e => exact absurd h e
theorem lgCommit {E F R : Heap} {b lb : Nat} {s : DS} {q : Int} (hE : Ext E F) (hL : Lg E lb b s q) (hR : Ext R F) (hA : Apart E R) (hN : NibAt R) (ims : List PcR) (A : Option Addr) (c : Nat) (hr : RowAt R A (rowS pcC ims)) (hp : ∀ p ∈ ims, PcOk R p) (hw : s.writes + 200000 < 1000000000) (hl : ims.length ≤ 100000) :
    FnK Tryz.prog 32 #[.pointer (some ⟨lb, 0, none⟩), .slice A ims.length c] F (fun v F' => v = .int .i64 (commitS dsO s q (ims.map pcW)).2.1 ∧ ∃ E', Moves E F E' F' ∧ Lg E' lb b (commitS dsO s q (ims.map pcW)).1 (commitS dsO s q (ims.map pcW)).2.2) := by
  obtain ⟨D, hD, hdl, rfl, hq0, hq1⟩ := hL
  have hDE : Ext D F := ((Ext.refl D).put hdl _).trans hE
  have hlg : F lb = some (lgO b q) := hE _ _ (Heap.put_same _ _ _)
  have hAD : Apart D R := hA.mono ((Ext.refl D).put hdl _)
  have hRl : R lb = none := hA lb (by rw [Heap.put_same]; simp)
  have k0 := lgReady hlg
  have k1 := lgPages hDE hD hlg
  have k2 := lgRight hDE hD hlg ims A c (hr.mono hR) hl
  have k3 := fun F hE hlg hN hr hp => lgPieces (F := F) (lb := lb) (q0 := q) hE hD hlg hN ims A c hr hp hl (q + 1)
  have hle := pagesN_le s.size
  have hC : commitS dsO s q (ims.map pcW) = if (ims.length : Int) > pagesN s.size then (s, 6, q) else
    if rightL s.size (ims.map pcW) [] = false then (s, 1, q) else
    if ims.length = 0 then (s, 0, q) else
    if (runW dsO s (logW s.size (q + 1) 0 (ims.map pcW))).2 ≠ 0 then ((runW dsO s (logW s.size (q + 1) 0 (ims.map pcW))).1, (runW dsO s (logW s.size (q + 1) 0 (ims.map pcW))).2, q) else
    if (runW dsO (runW dsO s (logW s.size (q + 1) 0 (ims.map pcW))).1 [(0, noteB ims.length (q + 1))]).2 ≠ 0 then ((runW dsO (runW dsO s (logW s.size (q + 1) 0 (ims.map pcW))).1 [(0, noteB ims.length (q + 1))]).1, (runW dsO (runW dsO s (logW s.size (q + 1) 0 (ims.map pcW))).1 [(0, noteB ims.length (q + 1))]).2, q) else
    ((runW dsO (runW dsO (runW dsO s (logW s.size (q + 1) 0 (ims.map pcW))).1 [(0, noteB ims.length (q + 1))]).1 (homW s.size (q + 1) (ims.map pcW))).1, (runW dsO (runW dsO (runW dsO s (logW s.size (q + 1) 0 (ims.map pcW))).1 [(0, noteB ims.length (q + 1))]).1 (homW s.size (q + 1) (ims.map pcW))).2, q + 1) := by
    unfold commitS
    rw [List.length_map]
    rfl
  have hsec : ims.length ≠ 0 → (runW dsO s (logW s.size (q + 1) 0 (ims.map pcW))).2 = 0 → secR (ims.length : Int) (q + 1) = true := fun h1 h2 => run_seq (by rw [List.length_map]; exact h1) h2 _ hl
  have hll := logW_len s.size (q + 1) 0 (ims.map pcW)
  have hhl : (homW s.size (q + 1) (ims.map pcW)).length = ims.length := by unfold homW; rw [List.length_map, List.length_map]
  rw [List.length_map] at hll
  generalize commitS dsO s q (ims.map pcW) = cs at hC
  generalize rightL s.size (ims.map pcW) [] = z at k2 hC
  have hrw := runW_le (logW s.size (q + 1) 0 (ims.map pcW)) s
  generalize logW s.size (q + 1) 0 (ims.map pcW) = lw at k3 hC hsec hll hrw
  generalize homW s.size (q + 1) (ims.map pcW) = hw_ at k3 hC hhl
  generalize pagesN s.size = pn at k1 hC hle
  have fin0 : ∀ F' s' D', Moves D F D' F' → Dk D' b s' → ∃ E', Moves (D.put lb (lgO b q)) F E' F' ∧ Lg E' lb b s' q := fun F' s' D' hM hD' => ⟨_, (moves_withB hM hdl hlg).1, D', hD', (moves_withB hM hdl hlg).2, rfl, hq0, hq1⟩
  (refine fn_walk tab_ok Tryz.func32 rfl rfl rfl rfl ?_; (conv => whnf))
  refine call_of k0 ?_
  rintro v F ⟨rfl, rfl⟩
  ((conv => whnf); repeat (first | (apply load_at; (conv => lhs; whnf); (with_reducible assumption); rfl; (conv => whnf)) | (apply load_at; (conv => lhs; rw [add_plain, add_plain]); (with_reducible assumption); rfl; (conv => whnf)) | (apply loads_at; (conv => lhs; whnf); (with_reducible assumption); rfl; (conv => whnf)) | (refine ⟨⟨by omega, by omega⟩, ?_⟩; (conv => whnf))))
  refine call_of k1 ?_
  rintro v F ⟨rfl, rfl⟩
  ((conv => whnf); repeat (first | (apply load_at; (conv => lhs; whnf); (with_reducible assumption); rfl; (conv => whnf)) | (apply load_at; (conv => lhs; rw [add_plain, add_plain]); (with_reducible assumption); rfl; (conv => whnf)) | (apply loads_at; (conv => lhs; whnf); (with_reducible assumption); rfl; (conv => whnf)) | (refine ⟨⟨by omega, by omega⟩, ?_⟩; (conv => whnf))))
  refine cond_split (fun h => ?_) (fun h => ?_)
  · have hg : (ims.length : Int) > pn := of_decide_eq_true (show decide ((ims.length : Int) > pn) = true from h)
    rw [if_pos hg] at hC
    subst hC
    ((conv => whnf); repeat (first | (apply load_at; (conv => lhs; whnf); (with_reducible assumption); rfl; (conv => whnf)) | (apply load_at; (conv => lhs; rw [add_plain, add_plain]); (with_reducible assumption); rfl; (conv => whnf)) | (apply loads_at; (conv => lhs; whnf); (with_reducible assumption); rfl; (conv => whnf)) | (refine ⟨⟨by omega, by omega⟩, ?_⟩; (conv => whnf))))
    exact ⟨rfl, fin0 _ _ D (Moves.refl hDE) hD⟩
  have hg : ¬ (ims.length : Int) > pn := of_decide_eq_false (show decide ((ims.length : Int) > pn) = false from h)
  rw [if_neg hg] at hC
  clear h
  ((conv => whnf); repeat (first | (apply load_at; (conv => lhs; whnf); (with_reducible assumption); rfl; (conv => whnf)) | (apply load_at; (conv => lhs; rw [add_plain, add_plain]); (with_reducible assumption); rfl; (conv => whnf)) | (apply loads_at; (conv => lhs; whnf); (with_reducible assumption); rfl; (conv => whnf)) | (refine ⟨⟨by omega, by omega⟩, ?_⟩; (conv => whnf))))
  refine call_of k2 ?_
  rintro v F1 ⟨rfl, hE1⟩
  have hM1 := Moves.ext hDE hE1
  refine short [0, 1, 23] [.pointer (some ⟨lb, 0, none⟩), .slice A ims.length c, .bool z] rfl fun ρ => ?_
  cases z with
  | false =>
    rw [if_pos rfl] at hC
    subst hC
    ((conv => whnf); repeat (first | (apply load_at; (conv => lhs; whnf); (with_reducible assumption); rfl; (conv => whnf)) | (apply load_at; (conv => lhs; rw [add_plain, add_plain]); (with_reducible assumption); rfl; (conv => whnf)) | (apply loads_at; (conv => lhs; whnf); (with_reducible assumption); rfl; (conv => whnf)) | (refine ⟨⟨by omega, by omega⟩, ?_⟩; (conv => whnf))))
    exact ⟨rfl, fin0 _ _ D hM1 hD⟩
  | true =>
  rw [if_neg (by decide)] at hC
  ((conv => whnf); repeat (first | (apply load_at; (conv => lhs; whnf); (with_reducible assumption); rfl; (conv => whnf)) | (apply load_at; (conv => lhs; rw [add_plain, add_plain]); (with_reducible assumption); rfl; (conv => whnf)) | (apply loads_at; (conv => lhs; whnf); (with_reducible assumption); rfl; (conv => whnf)) | (refine ⟨⟨by omega, by omega⟩, ?_⟩; (conv => whnf))))
  refine cond_split (fun h => ?_) (fun h => ?_)
  · have hz : ims.length = 0 := by
      have h : ((ims.length : Int) == 0) = true := h
      simp only [beq_iff_eq] at h
      omega
    rw [if_pos hz] at hC
    subst hC
    ((conv => whnf); repeat (first | (apply load_at; (conv => lhs; whnf); (with_reducible assumption); rfl; (conv => whnf)) | (apply load_at; (conv => lhs; rw [add_plain, add_plain]); (with_reducible assumption); rfl; (conv => whnf)) | (apply loads_at; (conv => lhs; whnf); (with_reducible assumption); rfl; (conv => whnf)) | (refine ⟨⟨by omega, by omega⟩, ?_⟩; (conv => whnf))))
    exact ⟨rfl, fin0 _ _ D hM1 hD⟩
  have hz : ¬ ims.length = 0 := by
    have h : ((ims.length : Int) == 0) = false := h
    simp only [beq_eq_false_iff_ne, ne_eq] at h
    omega
  rw [if_neg hz] at hC
  clear h
  have hlg1 := hE1 _ _ hlg
  ((conv => whnf); repeat (first | (apply load_at; (conv => lhs; whnf); (with_reducible assumption); rfl; (conv => whnf)) | (apply load_at; (conv => lhs; rw [add_plain, add_plain]); (with_reducible assumption); rfl; (conv => whnf)) | (apply loads_at; (conv => lhs; whnf); (with_reducible assumption); rfl; (conv => whnf)) | (refine ⟨⟨by omega, by omega⟩, ?_⟩; (conv => whnf))))
  rw [wrap_eq (show -9223372036854775808 ≤ q + 1 by omega) (by omega)]
  refine call_of (k3 F1 (hDE.trans hE1) hlg1 (hN.mono (hR.trans hE1)) (hr.mono (hR.trans hE1)) (fun p h => (hp p h).mono (hR.trans hE1))) ?_
  rintro v F2 ⟨⟨ps, hs, A1, A2, c1, c2, rfl, hr1, hr2, hf1, hf2, hok, hlw, hhw⟩, hE2⟩
  have hE02 := hE1.trans hE2
  have hlg2 := hE02 _ _ hlg
  have hM2 := Moves.ext hDE hE02
  have hR2 := newH_ext F F2
  have hA2 : Apart D (newH F F2) := newH_apart F2 hDE
  have hRl2 : newH F F2 lb = none := by
    unfold newH gain
    rw [hlg]
    rfl
  have hp1 : ∀ p ∈ ps ++ hs, PcOk (newH F F2) p := fun p h => ⟨newH_row (hok p h).1.row fun a ha => hE1.none ((hok p h).2 a ha), (hok p h).1.len⟩
  have hrow1 := newH_row (F := F) hr1 fun a ha => hE1.none (hf1 a ha)
  have hrow2 := newH_row (F := F) hr2 fun a ha => hE1.none (hf2 a ha)
  have hpl : ps.length = ims.length := by rw [← hll, ← hlw, List.length_map]
  have hhl2 : hs.length = ims.length := by rw [← hhl, ← hhw, List.length_map]
  have hN2 := hN.mono (hR.trans hE02)
  generalize newH F F2 = R2 at hR2 hA2 hRl2 hp1 hrow1 hrow2
  have k5 := redoWrite (hDE.trans hE02) hD hR2 hA2 ps A1 c1 hrow1 (fun p h => hp1 p (List.mem_append_left _ h)) (by omega) (by omega)
  rw [hlw] at k5
  generalize runW dsO s lw = r1 at k5 hC hsec hrw
  obtain ⟨s1, e1⟩ := r1
  dsimp only at hC hsec hrw k5
  refine short [0, 1, 5, 38] [.pointer (some ⟨lb, 0, none⟩), .slice A ims.length c, .int .i64 (q + 1), .tuple #[.slice A1 ps.length c1, .slice A2 hs.length c2]] rfl fun ρ => ?_
  ((conv => whnf); repeat (first | (apply load_at; (conv => lhs; whnf); (with_reducible assumption); rfl; (conv => whnf)) | (apply load_at; (conv => lhs; rw [add_plain, add_plain]); (with_reducible assumption); rfl; (conv => whnf)) | (apply loads_at; (conv => lhs; whnf); (with_reducible assumption); rfl; (conv => whnf)) | (refine ⟨⟨by omega, by omega⟩, ?_⟩; (conv => whnf))))
  refine call_of k5 ?_
  rintro v F3 ⟨rfl, D3, hM3, hD3⟩
  have hM03 := hM2.trans hM3
  have hlg3 := hM3.out _ _ hlg2 hdl
  have hdl3 := (moves_withB (o := lgO b q) hM03 hdl hlg).2
  have hR3 := hM3.keep hR2 hA2
  have hA3 := hM3.apart hR2 hA2
  refine short [0, 1, 5, 7, 46] [.pointer (some ⟨lb, 0, none⟩), .slice A ims.length c, .int .i64 (q + 1), .slice A2 hs.length c2, .int .i64 e1] rfl fun ρ => ?_
  ((conv => whnf); repeat (first | (apply load_at; (conv => lhs; whnf); (with_reducible assumption); rfl; (conv => whnf)) | (apply load_at; (conv => lhs; rw [add_plain, add_plain]); (with_reducible assumption); rfl; (conv => whnf)) | (apply loads_at; (conv => lhs; whnf); (with_reducible assumption); rfl; (conv => whnf)) | (refine ⟨⟨by omega, by omega⟩, ?_⟩; (conv => whnf))))
  refine cond_split (fun h => ?_) (fun h => ?_)
  · have he : e1 ≠ 0 := by
      have h : (e1 != 0) = true := h
      simpa using h
    rw [if_pos he] at hC
    subst hC
    ((conv => whnf); repeat (first | (apply load_at; (conv => lhs; whnf); (with_reducible assumption); rfl; (conv => whnf)) | (apply load_at; (conv => lhs; rw [add_plain, add_plain]); (with_reducible assumption); rfl; (conv => whnf)) | (apply loads_at; (conv => lhs; whnf); (with_reducible assumption); rfl; (conv => whnf)) | (refine ⟨⟨by omega, by omega⟩, ?_⟩; (conv => whnf))))
    exact ⟨rfl, fin0 _ _ D3 hM03 hD3⟩
  have he : ¬ e1 ≠ 0 := by
    have h : (e1 != 0) = false := h
    simpa using h
  rw [if_neg he] at hC
  have hs1 := hsec hz (by simpa using he)
  clear h
  have k6 := redoMark hM03.inn hD3 (ims.length : Int) (q + 1) (by
    have hNR : NibAt R := hN
    exact NibAt.mono hNR (hM03.keep (hR.trans (Ext.refl _)) hAD)) (by omega)
  have hmk : markS dsO s1 (ims.length : Int) (q + 1) = runW dsO s1 [(0, noteB ims.length (q + 1))] := if_pos hs1
  rw [hmk] at k6
  have hrw2 := runW_le [(0, noteB ims.length (q + 1))] s1
  generalize runW dsO s1 [(0, noteB ims.length (q + 1))] = r2 at k6 hC hrw2
  obtain ⟨s2, e2⟩ := r2
  dsimp only at hC k6
  replace hrw2 : s2.writes ≤ s1.writes + ((1 : Nat) : Int) ∧ s2.size = s1.size := hrw2
  ((conv => whnf); repeat (first | (apply load_at; (conv => lhs; whnf); (with_reducible assumption); rfl; (conv => whnf)) | (apply load_at; (conv => lhs; rw [add_plain, add_plain]); (with_reducible assumption); rfl; (conv => whnf)) | (apply loads_at; (conv => lhs; whnf); (with_reducible assumption); rfl; (conv => whnf)) | (refine ⟨⟨by omega, by omega⟩, ?_⟩; (conv => whnf))))
  refine call_of k6 ?_
  rintro v F4 ⟨rfl, D4, hM4, hD4⟩
  have hM04 := hM03.trans hM4
  have hlg4 := hM4.out _ _ hlg3 hdl3
  have hdl4 := (moves_withB (o := lgO b q) hM04 hdl hlg).2
  have hR4 := hM4.keep hR3 hA3
  have hA4 := hM4.apart hR3 hA3
  refine short [0, 5, 7, 58] [.pointer (some ⟨lb, 0, none⟩), .int .i64 (q + 1), .slice A2 hs.length c2, .int .i64 e2] rfl fun ρ => ?_
  ((conv => whnf); repeat (first | (apply load_at; (conv => lhs; whnf); (with_reducible assumption); rfl; (conv => whnf)) | (apply load_at; (conv => lhs; rw [add_plain, add_plain]); (with_reducible assumption); rfl; (conv => whnf)) | (apply loads_at; (conv => lhs; whnf); (with_reducible assumption); rfl; (conv => whnf)) | (refine ⟨⟨by omega, by omega⟩, ?_⟩; (conv => whnf))))
  refine cond_split (fun h => ?_) (fun h => ?_)
  · have he : e2 ≠ 0 := by
      have h : (e2 != 0) = true := h
      simpa using h
    rw [if_pos he] at hC
    subst hC
    ((conv => whnf); repeat (first | (apply load_at; (conv => lhs; whnf); (with_reducible assumption); rfl; (conv => whnf)) | (apply load_at; (conv => lhs; rw [add_plain, add_plain]); (with_reducible assumption); rfl; (conv => whnf)) | (apply loads_at; (conv => lhs; whnf); (with_reducible assumption); rfl; (conv => whnf)) | (refine ⟨⟨by omega, by omega⟩, ?_⟩; (conv => whnf))))
    exact ⟨rfl, fin0 _ _ D4 hM04 hD4⟩
  have he : ¬ e2 ≠ 0 := by
    have h : (e2 != 0) = false := h
    simpa using h
  rw [if_neg he] at hC
  clear h
  ((conv => whnf); repeat (first | (apply load_at; (conv => lhs; whnf); (with_reducible assumption); rfl; (conv => whnf)) | (apply load_at; (conv => lhs; rw [add_plain, add_plain]); (with_reducible assumption); rfl; (conv => whnf)) | (apply loads_at; (conv => lhs; whnf); (with_reducible assumption); rfl; (conv => whnf)) | (refine ⟨⟨by omega, by omega⟩, ?_⟩; (conv => whnf))))
  refine store_step lb 1 _ #[.pointer (some ⟨b, 0, none⟩), .int .i64 (q + 1)] rfl hlg4 rfl rfl (.inl (Nat.le_refl 0)) (one_int _ _) ?_
  have hB5 := Heap.put_same F4 lb (lgO b (q + 1))
  have hMB := (moves_withB (o := lgO b q) hM04 hdl hlg).1
  have hM5 := hMB.trans (Moves.put (b := lb) hMB.inn (.inl (by rw [Heap.put_same]; simp)) (lgO b (q + 1)))
  rw [show (D4.put lb (lgO b q)).put lb (lgO b (q + 1)) = D4.put lb (lgO b (q + 1)) from funext fun z => by unfold Heap.put; split <;> rfl] at hM5
  have hE5 : Ext D4 (F4.put lb (lgO b (q + 1))) := hM4.inn.put hdl4 _
  have hR5 : Ext R2 (F4.put lb (lgO b (q + 1))) := hR4.put hRl2 _
  generalize F4.put lb _ = F5 at hB5 hM5 hE5 hR5 ⊢
  have k7 := redoWrite hE5 hD4 hR5 hA4 hs A2 c2 hrow2 (fun p h => hp1 p (List.mem_append_right _ h)) (by omega) (by omega)
  rw [hhw] at k7
  generalize runW dsO s2 hw_ = r3 at k7 hC
  obtain ⟨s3, e3⟩ := r3
  dsimp only at hC k7
  subst hC
  ((conv => whnf); repeat (first | (apply load_at; (conv => lhs; whnf); (with_reducible assumption); rfl; (conv => whnf)) | (apply load_at; (conv => lhs; rw [add_plain, add_plain]); (with_reducible assumption); rfl; (conv => whnf)) | (apply loads_at; (conv => lhs; whnf); (with_reducible assumption); rfl; (conv => whnf)) | (refine ⟨⟨by omega, by omega⟩, ?_⟩; (conv => whnf))))
  refine call_of k7 ?_
  rintro v F6 ⟨rfl, D6, hM6, hD6⟩
  obtain ⟨hM7, hdl6⟩ := moves_withB (o := lgO b (q + 1)) hM6 hdl4 hB5
  have hqr : q + 1 ≤ 4611686018427387904 := by
    unfold secR at hs1
    simp only [Bool.and_eq_true, decide_eq_true_eq] at hs1
    exact hs1.2.2
  ((conv => whnf); repeat (first | (apply load_at; (conv => lhs; whnf); (with_reducible assumption); rfl; (conv => whnf)) | (apply load_at; (conv => lhs; rw [add_plain, add_plain]); (with_reducible assumption); rfl; (conv => whnf)) | (apply loads_at; (conv => lhs; whnf); (with_reducible assumption); rfl; (conv => whnf)) | (refine ⟨⟨by omega, by omega⟩, ?_⟩; (conv => whnf))))
  exact ⟨rfl, _, hM5.trans hM7, D6, hD6, hdl6, rfl, (by omega : 0 ≤ q + 1), hqr⟩
end Go.Proofs.YtmpiggcooboenaaGreatDoor.Al
/- Logs: the plain law, 1: what writing does to what a disk holds; sectors are read as they were packed. -/
namespace Go.Proofs.YtmpiggcooboenaaGreatDoor.Al
open Go Go.Al Go.Proofs Go.RowKit
set_option maxRecDepth 100000
set_option linter.unusedVariables false
set_option linter.unusedSimpArgs false
/-- A disk that no write can bring down. -/
structure Up (s : DS) : Prop where
  down : s.down = false
  arm : s.armed = false
/-- What is written, in order. -/
def putAll (c : Int → List UInt8) (ws : List (Int × List UInt8)) : Int → List UInt8 := ws.foldl (fun c p k => if k = p.1 then p.2 else c k) c
theorem putAll_cons (c : Int → List UInt8) (p : Int × List UInt8) (ws : List (Int × List UInt8)) : putAll c (p :: ws) = putAll (fun k => if k = p.1 then p.2 else c k) ws := rfl
theorem putAll_app (c : Int → List UInt8) (ws us : List (Int × List UInt8)) : putAll c (ws ++ us) = putAll (putAll c ws) us := by
  unfold putAll
  rw [List.foldl_append]
theorem putAll_no (ws : List (Int × List UInt8)) (k : Int) (h : ∀ p ∈ ws, p.1 ≠ k) (c : Int → List UInt8) : putAll c ws k = c k := by
  induction ws generalizing c with
  | nil => rfl
  | cons p ws ih =>
    rw [putAll_cons, ih (fun q hq => h q (List.mem_cons_of_mem _ hq))]
    exact if_neg (fun e => h p List.mem_cons_self e.symm)
theorem putAll_yes {ws : List (Int × List UInt8)} (hn : (ws.map (·.1)).Nodup) {p : Int × List UInt8} (h : p ∈ ws) (c : Int → List UInt8) : putAll c ws p.1 = p.2 := by
  induction ws generalizing c with
  | nil => cases h
  | cons q ws ih =>
    rw [List.map_cons, List.nodup_cons] at hn
    rw [putAll_cons]
    rcases List.mem_cons.1 h with rfl | h
    · rw [putAll_no _ _ fun x hx e => hn.1 (by rw [← e]; exact List.mem_map_of_mem hx)]
      exact if_pos rfl
    · exact ih hn.2 h _
/-- Pieces that may be written. -/
def OkW (n : Int) (ws : List (Int × List UInt8)) : Prop := ∀ p ∈ ws, (0 ≤ p.1 ∧ p.1 < n) ∧ p.2.length = 256
theorem secB_upd (s : DS) (i : Int) (l : List UInt8) (o : List Int) (lf w : Int) (a d : Bool) (k : Int) : secB ⟨a, lf, d, s.size, s.safe, updF s.fresh i (some l), o, w⟩ k = if k = i then l else secB s k := by
  unfold secB updF
  by_cases e : k = i
  · simp only [if_pos e]
  · simp only [if_neg e]
theorem write_up {s : DS} (h : Up s) {i : Int} {l : List UInt8} (hi : 0 ≤ i ∧ i < s.size) (hl : l.length = 256) :
    writeE s i l = 0 ∧ Up (writeS s i l) ∧ (∀ k, secB (writeS s i l) k = if k = i then l else secB s k) ∧ (writeS s i l).writes = s.writes + 1 ∧ (writeS s i l).size = s.size := by
  have hb : burnOk s.armed s.left = true := by unfold burnOk; rw [h.arm]; rfl
  have h1 : writeE s i l = 0 := by
    unfold writeE
    rw [h.down, if_neg (by decide), if_neg (by rintro (e | e); exact e hi; exact e hl), if_pos hb]
  have h2 : writeS s i l = { s with left := if s.armed = true then s.left - 1 else s.left, fresh := updF s.fresh i (some l), order := if s.fresh i = none then s.order ++ [i] else s.order, writes := s.writes + 1 } := by
    unfold writeS
    rw [if_neg (by rintro (e | e | e); rw [h.down] at e; cases e; exact e hi; exact e hl), if_pos hb]
  rw [h2]
  exact ⟨h1, ⟨h.down, h.arm⟩, fun k => secB_upd s i l _ _ _ _ _ k, rfl, rfl⟩
/-- A disk on which all is safe. -/
structure Calm (s : DS) : Prop where
  fresh : ∀ k, s.fresh k = none
  order : s.order = []
theorem secB_calm {s : DS} (h : Calm s) (k : Int) : secB s k = safB s k := secB_none (h.fresh k)
theorem flush_up {s : DS} (h : s.down = false) (hw : DWf s) : flushE s = 0 ∧ (∀ k, secB (flushS s) k = secB s k) ∧ Calm (flushS s) ∧ (flushS s).writes = s.writes ∧ (flushS s).size = s.size ∧ (flushS s).down = false ∧ (flushS s).armed = s.armed ∧ (flushS s).left = s.left := by
  have e : flushS s = settleS s (fun _ => true) := by unfold flushS; rw [if_neg (by rw [h]; decide)]
  refine ⟨by unfold flushE; rw [if_neg (by rw [h]; decide)], fun k => ?_, ?_, ?_⟩
  · rw [e]
    have h1 : secB (settleS s (fun _ => true)) k = safB (settleS s (fun _ => true)) k := secB_none rfl
    rw [h1]
    show (match setl (fun _ => true) s.fresh s.order 0 s.safe k with | some l => l | none => List.replicate 256 0) = secB s k
    rw [setl_at _ _ _ _ _ _ hw.nod]
    by_cases hm : k ∈ s.order
    · rw [if_pos ⟨(idxI_mem s.order k 0).2 hm, rfl⟩]
      have := (hw.fr k).1 hm
      unfold secB
      cases hf : s.fresh k with
      | none => exact absurd hf this
      | some l => rfl
    · rw [if_neg fun x => hm ((idxI_mem s.order k 0).1 x.1)]
      have hf : s.fresh k = none := by
        cases hf : s.fresh k with
        | none => rfl
        | some l => exact absurd ((hw.fr k).2 (by rw [hf]; simp)) hm
      unfold secB
      rw [hf]
      rfl
  · rw [e]
    exact ⟨fun _ => rfl, rfl⟩
  · rw [e]
    exact ⟨rfl, rfl, h, rfl, rfl⟩
theorem writeS_wf {s : DS} (h : DWf s) {i : Int} (hi : 0 ≤ i ∧ i < s.size) (hw : s.writes < 1000000000) (l : List UInt8) (hl : l.length = 256) : DWf (writeS s i l) := by
  unfold writeS
  by_cases hd : s.down = true
  · rw [if_pos (.inl hd)]; exact h
  rw [if_neg (by rintro (e | e | e); exact hd e; exact e hi; exact e hl)]
  by_cases hb : burnOk s.armed s.left = true
  · rw [if_pos hb]
    refine write_wf h hi hw l ?_ rfl
    have := h.lf
    unfold burnOk at hb
    split
    · next ha =>
      rw [ha] at hb
      have : s.left ≠ 0 := by simpa using hb
      omega
    · exact this
  · rw [if_neg hb]
    exact ⟨h.sz, h.lf, h.wr, h.ord, h.fr, h.inr, h.nod⟩
theorem flush_wf {s : DS} (h : DWf s) : DWf (flushS s) := by
  unfold flushS
  split
  · exact h
  · exact settle_wf h _
/-- Writing pieces, when nothing brings the disk down. -/
theorem runW_up : ∀ (ws : List (Int × List UInt8)) (s : DS), Up s → DWf s → s.writes + ws.length < 1000000000 → OkW s.size ws →
    (runW dsO s ws).2 = 0 ∧ Up (runW dsO s ws).1 ∧ DWf (runW dsO s ws).1 ∧ Calm (runW dsO s ws).1 ∧ (∀ k, secB (runW dsO s ws).1 k = putAll (secB s) ws k) ∧ (runW dsO s ws).1.writes = s.writes + ws.length ∧ (runW dsO s ws).1.size = s.size
  | [], s, hu, hd, hw, ho => by
    obtain ⟨h1, h2, h3, h4, h5, h6, h7, _⟩ := flush_up hu.down hd
    exact ⟨h1, ⟨h6, h7.trans hu.arm⟩, flush_wf hd, h3, h2, by show (flushS s).writes = s.writes + ((0 : Nat) : Int); omega, h5⟩
  | p :: ws, s, hu, hd, hw, ho => by
    have hw : s.writes + ((ws.length + 1 : Nat) : Int) < 1000000000 := hw
    obtain ⟨hp1, hp2⟩ := ho p List.mem_cons_self
    obtain ⟨h1, h2, h3, h4, h5⟩ := write_up hu hp1 hp2
    have e : runW dsO s (p :: ws) = runW dsO (writeS s p.1 p.2) ws := if_pos h1
    rw [e]
    obtain ⟨g1, g2, g3, g4, g5, g6, g7⟩ := runW_up ws (writeS s p.1 p.2) h2 (writeS_wf hd hp1 (by omega) _ hp2) (by omega) (fun q hq => by rw [h5]; exact ho q (List.mem_cons_of_mem _ hq))
    refine ⟨g1, g2, g3, g4, fun k => ?_, ?_, g7.trans h5⟩
    · rw [g5, putAll_cons]
      have : secB (writeS s p.1 p.2) = fun k => if k = p.1 then p.2 else secB s k := funext h3
      rw [this]
    · rw [g6, h4]
      show s.writes + 1 + (ws.length : Int) = s.writes + ((ws.length + 1 : Nat) : Int)
      omega
/-- What is packed is read as it was. -/
theorem un_pack {p q : Int} {d : List UInt8} (h : packY p q d = true) : okU (packB p q d) = true ∧ unP (packB p q d) = p ∧ unQ (packB p q d) = q ∧ unD (packB p q d) = d ∧ unE (packB p q d) = 0 := by
  have hl := packB_len h
  have hb : packB p q d = sealB (headB p q d) := if_pos h
  have h' := h
  unfold packY secR at h'
  simp only [Bool.and_eq_true, decide_eq_true_eq] at h'
  obtain ⟨⟨hp, hq0, hq1⟩, hdl⟩ := h'
  have hp' : 0 ≤ p ∧ p < 4294967296 := by
    unfold inM at hp
    rw [show Nat.beq 4 8 = false by decide, cond_false, show ((256 ^ 4 : Nat) : Int) = 4294967296 by decide] at hp
    simpa using hp
  have hdl : d.length = 240 := by simpa using hdl
  have hh : headB p q d = beM 4 p ++ (beM 8 q ++ d) := by
    unfold headB putM
    rw [hp, cond_true, show inM 8 q = true by rfl, cond_true, List.nil_append, List.append_assoc]
  have d4 : (packB p q d).drop 4 = beM 4 p ++ (beM 8 q ++ d) := by
    rw [hb]
    unfold sealB
    rw [List.drop_left' (beM_len 4 _), hh]
  have d8 : (packB p q d).drop 8 = beM 8 q ++ d := by
    rw [show (8 : Nat) = 4 + 4 by rfl, ← List.drop_drop, d4, List.drop_left' (beM_len 4 _)]
  have d16 : (packB p q d).drop 16 = d := by
    rw [show (16 : Nat) = 8 + 8 by rfl, ← List.drop_drop, d8, List.drop_left' (beM_len 8 _)]
  have g4 : getN (packB p q d) 4 4 = p := by
    rw [getN_at (by omega), d4, List.take_left' (beM_len 4 _), getV_back (.inr (.inr (.inl rfl))) hp (by omega) (by omega)]
  have g8 : getN (packB p q d) 8 8 = q := by
    rw [getN_at (by omega), d8, List.take_left' (beM_len 8 _), getV_back (.inr (.inr (.inr rfl))) rfl (by omega) (by omega)]
  have hs : (sealB ((packB p q d).drop 4) == packB p q d) = true := by
    rw [d4, ← hh, ← hb]
    exact beq_self_eq_true _
  have hsr : secR p q = true := by
    unfold packY at h
    rw [Bool.and_eq_true] at h
    exact h.1
  have hok : okU (packB p q d) = true := by
    unfold okU
    rw [g4, g8, hs, hsr, hl]
    rfl
  unfold unP unQ unD unE
  rw [if_pos hok, if_pos hok, if_pos hok, if_pos hok]
  exact ⟨hok, g4, g8, d16, rfl⟩
end Go.Proofs.YtmpiggcooboenaaGreatDoor.Al
/- Logs: the plain law, 2: writing that the disk may go down in; what a crash leaves; whole slots. -/
namespace Go.Proofs.YtmpiggcooboenaaGreatDoor.Al
open Go Go.Al Go.Proofs Go.RowKit
set_option maxRecDepth 100000
set_option linter.unusedVariables false
set_option linter.unusedSimpArgs false
/-- What a disk may hold that goes down: what was safe, or some of what was written. -/
structure Mid (b : Int → List UInt8) (A : List (Int × List UInt8)) (s : DS) : Prop where
  wf : DWf s
  safe : ∀ k, safB s k = b k
  fresh : ∀ k l, s.fresh k = some l → (k, l) ∈ A
theorem Mid.mono {b : Int → List UInt8} {A B : List (Int × List UInt8)} {s : DS} (h : Mid b A s) (hs : ∀ p ∈ A, p ∈ B) : Mid b B s := ⟨h.wf, h.safe, fun k l e => hs _ (h.fresh k l e)⟩
theorem mid_calm {s : DS} (hw : DWf s) (hc : Calm s) : Mid (secB s) [] s := ⟨hw, fun k => (secB_calm hc k).symm, fun k l e => by rw [hc.fresh] at e; cases e⟩
theorem mid_crash {b : Int → List UInt8} {A : List (Int × List UInt8)} {s : DS} (h : Mid b A s) (keep : List Int) :
    DWf (crashS s keep) ∧ Calm (crashS s keep) ∧ Up (crashS s keep) ∧ (crashS s keep).size = s.size ∧ (crashS s keep).writes = s.writes ∧ ∀ k, secB (crashS s keep) k = b k ∨ (k, secB (crashS s keep) k) ∈ A := by
  have hw := settle_wf h.wf (fun j => decide ((j : Int) ∈ keep))
  have hwf : DWf (crashS s keep) := ⟨hw.sz, ⟨Int.le_refl 0, show (0 : Int) ≤ 9223372036854775807 by decide⟩, hw.wr, hw.ord, hw.fr, hw.inr, hw.nod⟩
  refine ⟨hwf, ⟨fun _ => rfl, rfl⟩, ⟨rfl, rfl⟩, rfl, rfl, fun k => ?_⟩
  have e : secB (crashS s keep) k = match setl (fun j => decide ((j : Int) ∈ keep)) s.fresh s.order 0 s.safe k with | some l => l | none => List.replicate 256 0 := rfl
  rw [e, setl_at _ _ _ _ _ _ h.wf.nod]
  by_cases hk : idxI s.order k 0 ≥ 0 ∧ (fun j : Nat => decide ((j : Int) ∈ keep)) (idxI s.order k 0).toNat = true
  · rw [if_pos hk]
    have hm := (idxI_mem s.order k 0).1 hk.1
    cases hf : s.fresh k with
    | none => exact absurd hf ((h.wf.fr k).1 hm)
    | some l => exact .inr (h.fresh k l hf)
  · rw [if_neg hk]
    exact .inl (h.safe k)
theorem calm_crash {s : DS} (hw : DWf s) (hc : Calm s) (keep : List Int) : DWf (crashS s keep) ∧ Calm (crashS s keep) ∧ Up (crashS s keep) ∧ (crashS s keep).size = s.size ∧ (crashS s keep).writes = s.writes ∧ ∀ k, secB (crashS s keep) k = secB s k := by
  obtain ⟨h1, h2, h3, h4, h5, h6⟩ := mid_crash (mid_calm hw hc) keep
  exact ⟨h1, h2, h3, h4, h5, fun k => (h6 k).resolve_right fun e => by cases e⟩
theorem writeE_mid {s : DS} (hd : s.down = false) {i : Int} {l : List UInt8} (hi : 0 ≤ i ∧ i < s.size) (hl : l.length = 256) : (writeE s i l = 0 ∧ (writeS s i l).down = false ∧ (writeS s i l).safe = s.safe ∧ (writeS s i l).fresh = updF s.fresh i (some l) ∧ (writeS s i l).armed = s.armed) ∨ (writeE s i l ≠ 0 ∧ (writeS s i l).safe = s.safe ∧ (writeS s i l).fresh = s.fresh) := by
  have e1 : writeE s i l = if burnOk s.armed s.left = true then 0 else 5 := by
    unfold writeE
    rw [hd, if_neg (by decide), if_neg (by rintro (e | e); exact e hi; exact e hl)]
  have e2 : writeS s i l = if burnOk s.armed s.left = true then { s with left := if s.armed = true then s.left - 1 else s.left, fresh := updF s.fresh i (some l), order := if s.fresh i = none then s.order ++ [i] else s.order, writes := s.writes + 1 } else { s with down := true } := by
    unfold writeS
    rw [if_neg (by rintro (e | e | e); rw [hd] at e; cases e; exact e hi; exact e hl)]
  rw [e1, e2]
  by_cases hb : burnOk s.armed s.left = true
  · rw [if_pos hb, if_pos hb]
    exact .inl ⟨rfl, hd, rfl, rfl, rfl⟩
  · rw [if_neg hb, if_neg hb]
    exact .inr ⟨by decide, rfl, rfl⟩
/-- Writing pieces, when something may bring the disk down. -/
theorem runW_mid {b : Int → List UInt8} : ∀ (ws A : List (Int × List UInt8)) (s : DS), s.down = false → Mid b A s → s.writes + ws.length < 1000000000 → OkW s.size ws →
    ((runW dsO s ws).2 = 0 ∧ (runW dsO s ws).1.down = false ∧ DWf (runW dsO s ws).1 ∧ Calm (runW dsO s ws).1 ∧ (∀ k, secB (runW dsO s ws).1 k = putAll (secB s) ws k)) ∨
    ((runW dsO s ws).2 ≠ 0 ∧ Mid b (A ++ ws) (runW dsO s ws).1)
  | [], A, s, hd, hM, hw, ho => by
    obtain ⟨h1, h2, h3, h4, h5, h6, h7, _⟩ := flush_up hd hM.wf
    exact .inl ⟨h1, h6, flush_wf hM.wf, h3, h2⟩
  | p :: ws, A, s, hd, hM, hw, ho => by
    have hw : s.writes + ((ws.length + 1 : Nat) : Int) < 1000000000 := hw
    obtain ⟨hp1, hp2⟩ := ho p List.mem_cons_self
    obtain ⟨hle, hsz⟩ := writes_le s p.1 p.2
    have hwf := writeS_wf hM.wf hp1 (by omega) p.2 hp2
    rcases writeE_mid hd hp1 hp2 with ⟨h1, h2, h3, h4, h5⟩ | ⟨h1, h2, h3⟩
    · have e : runW dsO s (p :: ws) = runW dsO (writeS s p.1 p.2) ws := if_pos h1
      have hM2 : Mid b (A ++ [p]) (writeS s p.1 p.2) := ⟨hwf, fun k => by unfold safB; rw [h3]; exact hM.safe k, fun k l hf => by
        rw [h4] at hf
        unfold updF at hf
        split at hf
        · next ek =>
          cases hf
          subst ek
          exact List.mem_append_right _ List.mem_cons_self
        · exact List.mem_append_left _ (hM.fresh k l hf)⟩
      have hsec : secB (writeS s p.1 p.2) = fun k => if k = p.1 then p.2 else secB s k := funext fun k => by
        unfold secB
        rw [h3, h4]
        unfold updF
        by_cases ek : k = p.1
        · simp only [if_pos ek]
        · simp only [if_neg ek]
      rw [e]
      rcases runW_mid ws (A ++ [p]) (writeS s p.1 p.2) h2 hM2 (by omega) (fun q hq => by rw [hsz]; exact ho q (List.mem_cons_of_mem _ hq)) with ⟨g1, g2, g3, g4, g5⟩ | ⟨g1, g2⟩
      · exact .inl ⟨g1, g2, g3, g4, fun k => by rw [g5, putAll_cons, hsec]⟩
      · exact .inr ⟨g1, by rw [List.append_assoc] at g2; exact g2⟩
    · have e : runW dsO s (p :: ws) = (writeS s p.1 p.2, writeE s p.1 p.2) := if_neg h1
      rw [e]
      exact .inr ⟨h1, hwf, fun k => by unfold safB; rw [h2]; exact hM.safe k, fun k l hf => by rw [h3] at hf; exact List.mem_append_left _ (hM.fresh k l hf)⟩
/-- What a log finds on a disk hangs on what the disk reads alone. -/
structure SameR {α β : Type} (o : DOps α) (a : α) (o' : DOps β) (a' : β) : Prop where
  sz : o.sz a = o'.sz a'
  e : ∀ i, o.rdE a i = o'.rdE a' i
  l : ∀ i, o.rdL a i = o'.rdL a' i
theorem SameR.slotY {α β : Type} {o : DOps α} {a : α} {o' : DOps β} {a' : β} (h : SameR o a o' a') (q i : Int) : slotY o a q i = slotY o' a' q i := by
  unfold Go.Proofs.YtmpiggcooboenaaGreatDoor.Al.slotY
  rw [h.sz, h.e, h.l]
theorem SameR.slotP {α β : Type} {o : DOps α} {a : α} {o' : DOps β} {a' : β} (h : SameR o a o' a') (i : Int) : slotP o a i = slotP o' a' i := by
  unfold Go.Proofs.YtmpiggcooboenaaGreatDoor.Al.slotP
  rw [h.sz, h.l]
theorem SameR.whl {α β : Type} {o : DOps α} {a : α} {o' : DOps β} {a' : β} (h : SameR o a o' a') (q : Int) : ∀ k i, whl o a q k i = whl o' a' q k i
  | 0, _ => rfl
  | k + 1, i => by
    show (if Go.Proofs.YtmpiggcooboenaaGreatDoor.Al.slotY o a q (i : Int) = true then _ else none) = (if Go.Proofs.YtmpiggcooboenaaGreatDoor.Al.slotY o' a' q (i : Int) = true then _ else none)
    rw [h.slotY, h.slotP, h.whl q k (i + 1)]
theorem SameR.whole {α β : Type} {o : DOps α} {a : α} {o' : DOps β} {a' : β} (h : SameR o a o' a') (n q : Int) : wholeO o a n q = wholeO o' a' n q := by
  unfold wholeO
  rw [h.sz, h.whl]
theorem SameR.rdN {α β : Type} {o : DOps α} {a : α} {o' : DOps β} {a' : β} (h : SameR o a o' a') : rdN o a = rdN o' a' := by
  unfold Go.Proofs.YtmpiggcooboenaaGreatDoor.Al.rdN
  rw [h.e, h.l]
/-- A disk told by what it holds alone. -/
def cO (n : Int) : DOps (Int → List UInt8) := ⟨fun _ => n, fun _ i => if 0 ≤ i ∧ i < n then 0 else 1, fun c i => if 0 ≤ i ∧ i < n then c i else [], fun _ _ _ => 0, fun c _ _ => c, fun _ => 0, fun c => c⟩
theorem same_c {s : DS} (hd : s.down = false) : SameR dsO s (cO s.size) (secB s) := by
  refine ⟨rfl, fun i => ?_, fun i => ?_⟩
  · show readE s i = if 0 ≤ i ∧ i < s.size then 0 else 1
    unfold readE
    rw [hd, if_neg (by decide)]
    by_cases h : 0 ≤ i ∧ i < s.size
    · rw [if_neg (fun e => e h), if_pos h]
    · rw [if_pos h, if_neg h]
  · show readL s i = if 0 ≤ i ∧ i < s.size then secB s i else []
    unfold readL
    rw [hd]
    by_cases h : 0 ≤ i ∧ i < s.size
    · rw [if_neg (by rintro (e | e); cases e; exact e h), if_pos h]
    · rw [if_pos (.inr h), if_neg h]
/-- A page of a disk that holds c. -/
def pgOf (n : Int) (c : Int → List UInt8) (p : Int) : List UInt8 := if unE (c (homeI n p)) ≠ 0 ∨ unP (c (homeI n p)) ≠ p then zeros240 else unD (c (homeI n p))
theorem isPg_iff {n p : Int} : isPg n p = true ↔ 0 ≤ p ∧ p < pagesN n := by unfold isPg; exact decide_eq_true_iff
theorem home_range {n p : Int} (h : 0 ≤ p ∧ p < pagesN n) : homeI n p = 1 + pagesN n + p ∧ 0 ≤ homeI n p ∧ homeI n p < n := by
  have hle := pagesN_le n
  unfold homeI
  rw [if_pos h]
  omega
theorem slot_range {n i : Int} (h : 0 ≤ i ∧ i < pagesN n) : slotI n i = 1 + i ∧ 0 ≤ slotI n i ∧ slotI n i < n := by
  have hle := pagesN_le n
  unfold slotI
  rw [if_pos h]
  omega
theorem load_c {s : DS} (hd : s.down = false) {p : Int} (hp : isPg s.size p = true) : loadE dsO s p = 0 ∧ loadL dsO s p = pgOf s.size (secB s) p := by
  obtain ⟨_, h1, h2⟩ := home_range (isPg_iff.1 hp)
  have hS := same_c hd
  have e : readE s (homeI s.size p) = 0 := (hS.e _).trans (if_pos ⟨h1, h2⟩)
  have l : readL s (homeI s.size p) = secB s (homeI s.size p) := (hS.l _).trans (if_pos ⟨h1, h2⟩)
  refine ⟨?_, ?_⟩
  · show (if isPg s.size p = true then readE s (homeI s.size p) else 1) = 0
    rw [if_pos hp, e]
  · show (if isPg s.size p = true then (if readE s (homeI s.size p) ≠ 0 then [] else if unE (readL s (homeI s.size p)) ≠ 0 ∨ unP (readL s (homeI s.size p)) ≠ p then zeros240 else unD (readL s (homeI s.size p))) else []) = _
    rw [if_pos hp, e, if_neg (by decide), l]
    rfl
theorem unE_len {l : List UInt8} (h : unE l = 0) : l.length = 256 := by
  unfold unE at h
  split at h
  · next e =>
    unfold okU at e
    rw [Bool.and_eq_true] at e
    simpa using e.1
  · cases h
end Go.Proofs.YtmpiggcooboenaaGreatDoor.Al
/- Logs: the plain law, 3: what a disk holds whose log was not committed, or was; opening it. -/
namespace Go.Proofs.YtmpiggcooboenaaGreatDoor.Al
open Go Go.Al Go.Proofs Go.RowKit
set_option maxRecDepth 100000
set_option linter.unusedVariables false
set_option linter.unusedSimpArgs false
theorem right_iff (n : Int) : ∀ (ps : List (Int × List UInt8)) (seen : List Int), rightL n ps seen = true ↔ ((∀ p ∈ ps, isPg n p.1 = true ∧ p.2.length = 240 ∧ p.1 ∉ seen) ∧ (ps.map (·.1)).Nodup)
  | [], seen => by simp [rightL]
  | p :: ps, seen => by
    show (isPg n p.1 && ((p.2.length == 240) && (!(seen.contains p.1) && rightL n ps (p.1 :: seen)))) = true ↔ _
    rw [Bool.and_eq_true, Bool.and_eq_true, Bool.and_eq_true, right_iff n ps (p.1 :: seen), List.map_cons, List.nodup_cons]
    constructor
    · rintro ⟨h1, h2, h3, h4, h5⟩
      have h3 : p.1 ∉ seen := by simpa using h3
      refine ⟨fun x hx => ?_, fun hm => ?_, h5⟩
      · rcases List.mem_cons.1 hx with rfl | hx
        · exact ⟨h1, by simpa using h2, h3⟩
        · obtain ⟨g1, g2, g3⟩ := h4 x hx
          exact ⟨g1, g2, fun e => g3 (List.mem_cons_of_mem _ e)⟩
      · obtain ⟨x, hx, e⟩ := List.mem_map.1 hm
        exact (h4 x hx).2.2 (by rw [e]; exact List.mem_cons_self)
    · rintro ⟨h1, h2, h3⟩
      obtain ⟨g1, g2, g3⟩ := h1 p List.mem_cons_self
      refine ⟨g1, by simpa using g2, by simpa using g3, fun x hx => ?_, h3⟩
      obtain ⟨k1, k2, k3⟩ := h1 x (List.mem_cons_of_mem _ hx)
      refine ⟨k1, k2, fun e => ?_⟩
      rcases List.mem_cons.1 e with e | e
      · exact h2 (by rw [← e]; exact List.mem_map_of_mem hx)
      · exact k3 e
/-- Images that may be committed, under a number. -/
structure Ims (n q : Int) (ps : List (Int × List UInt8)) : Prop where
  pg : ∀ p ∈ ps, isPg n p.1 = true ∧ p.2.length = 240
  nod : (ps.map (·.1)).Nodup
  len : (ps.length : Int) ≤ pagesN n
  q0 : 0 ≤ q ∧ q ≤ 4611686018427387904
theorem secR_of {n q p : Int} (hp : 0 ≤ p ∧ p < 100000) (hq : 0 ≤ q ∧ q ≤ 4611686018427387904) : secR p q = true := by
  unfold secR inM
  rw [show Nat.beq 4 8 = false by decide, cond_false, show ((256 ^ 4 : Nat) : Int) = 4294967296 by decide]
  simp only [Bool.and_eq_true, decide_eq_true_eq]
  omega
theorem Ims.pack {n q : Int} {ps : List (Int × List UInt8)} (h : Ims n q ps) {p : Int × List UInt8} (hp : p ∈ ps) : packY p.1 q p.2 = true := by
  obtain ⟨h1, h2⟩ := h.pg p hp
  have := isPg_iff.1 h1
  have hle := pagesN_le n
  unfold packY
  rw [secR_of (n := n) (by omega) h.q0, h2]
  rfl
theorem Ims.note {n q : Int} {ps : List (Int × List UInt8)} (h : Ims n q ps) : secR (ps.length : Int) q = true := by
  have hle := pagesN_le n
  have := h.len
  exact secR_of (n := n) (by omega) h.q0
theorem note_pack {m q : Int} (h : secR m q = true) : packY m q (List.replicate 240 0) = true := by
  unfold packY
  rw [h, List.length_replicate]
  rfl
theorem logW_at (n q : Int) : ∀ (ps : List (Int × List UInt8)) (i j : Nat) (p : Int × List UInt8), ps[j]? = some p → (slotI n ((i + j : Nat) : Int), packB p.1 q p.2) ∈ logW n q i ps
  | [], i, j, p, h => by cases h
  | x :: ps, i, 0, p, h => by cases h; exact List.mem_cons_self
  | x :: ps, i, j + 1, p, h => by
    refine List.mem_cons_of_mem _ ?_
    have := logW_at n q ps (i + 1) j p h
    rwa [show i + 1 + j = i + (j + 1) by omega] at this
theorem logW_of (n q : Int) : ∀ (ps : List (Int × List UInt8)) (i : Nat) (w : Int × List UInt8), w ∈ logW n q i ps → ∃ j p, ps[j]? = some p ∧ w = (slotI n ((i + j : Nat) : Int), packB p.1 q p.2)
  | [], i, w, h => by cases h
  | x :: ps, i, w, h => by
    rcases List.mem_cons.1 h with rfl | h
    · exact ⟨0, x, rfl, rfl⟩
    · obtain ⟨j, p, h1, h2⟩ := logW_of n q ps (i + 1) w h
      exact ⟨j + 1, p, h1, by rw [h2, show i + 1 + j = i + (j + 1) by omega]⟩
theorem logW_ok {n q : Int} {ps : List (Int × List UInt8)} (h : Ims n q ps) : OkW n (logW n q 0 ps) := fun w hw => by
  obtain ⟨j, p, h1, rfl⟩ := logW_of n q ps 0 w hw
  have hj := (List.getElem?_eq_some_iff.1 h1).1
  have hl := h.len
  obtain ⟨g1, g2, g3⟩ := slot_range (n := n) (i := ((0 + j : Nat) : Int)) (by omega)
  exact ⟨⟨g2, g3⟩, packB_len (h.pack (List.mem_of_getElem? h1))⟩
theorem homW_ok {n q : Int} {ps : List (Int × List UInt8)} (h : Ims n q ps) : OkW n (homW n q ps) := fun w hw => by
  obtain ⟨p, hp, rfl⟩ := List.mem_map.1 hw
  obtain ⟨g1, g2, g3⟩ := home_range (isPg_iff.1 (h.pg p hp).1)
  exact ⟨⟨g2, g3⟩, packB_len (h.pack hp)⟩
theorem logW_keys (n q : Int) : ∀ (ps : List (Int × List UInt8)) (i : Nat), (i : Int) + ps.length ≤ pagesN n → ((logW n q i ps).map (·.1)).Nodup
  | [], i, h => List.nodup_nil
  | p :: ps, i, h => by
    rw [List.length_cons] at h
    show (slotI n (i : Int) :: (logW n q (i + 1) ps).map (·.1)).Nodup
    rw [List.nodup_cons]
    refine ⟨fun hm => ?_, logW_keys n q ps (i + 1) (by omega)⟩
    obtain ⟨w, hw, e⟩ := List.mem_map.1 hm
    obtain ⟨j, x, h1, rfl⟩ := logW_of n q ps (i + 1) w hw
    have hj := (List.getElem?_eq_some_iff.1 h1).1
    have e : slotI n ((i + 1 + j : Nat) : Int) = slotI n (i : Int) := e
    rw [(slot_range (n := n) (i := ((i + 1 + j : Nat) : Int)) (by omega)).1, (slot_range (n := n) (i := (i : Int)) (by omega)).1] at e
    omega
theorem homW_keys {n q : Int} : ∀ {ps : List (Int × List UInt8)}, (∀ p ∈ ps, isPg n p.1 = true) → (ps.map (·.1)).Nodup → ((homW n q ps).map (·.1)).Nodup
  | [], _, _ => List.nodup_nil
  | p :: ps, h, hn => by
    rw [List.map_cons, List.nodup_cons] at hn
    show (homeI n p.1 :: (homW n q ps).map (·.1)).Nodup
    rw [List.nodup_cons]
    refine ⟨fun hm => ?_, homW_keys (fun x hx => h x (List.mem_cons_of_mem _ hx)) hn.2⟩
    obtain ⟨w, hw, e⟩ := List.mem_map.1 hm
    obtain ⟨x, hx, rfl⟩ := List.mem_map.1 hw
    have e : homeI n x.1 = homeI n p.1 := e
    rw [(home_range (isPg_iff.1 (h x (List.mem_cons_of_mem _ hx)))).1, (home_range (isPg_iff.1 (h p List.mem_cons_self))).1] at e
    exact hn.1 (by rw [show p.1 = x.1 by omega]; exact List.mem_map_of_mem hx)
theorem putAll_or (ws : List (Int × List UInt8)) : ∀ (c : Int → List UInt8) (k : Int), putAll c ws k = c k ∨ (k, putAll c ws k) ∈ ws := by
  induction ws with
  | nil => exact fun c k => .inl rfl
  | cons p ws ih =>
    intro c k
    rw [putAll_cons]
    rcases ih (fun k => if k = p.1 then p.2 else c k) k with h | h
    · rw [h]
      by_cases e : k = p.1
      · refine .inr ?_
        rw [if_pos e, e]
        exact List.mem_cons_self
      · exact .inl (if_neg e)
    · exact .inr (List.mem_cons_of_mem _ h)
/-- What stands at the mark and in the slots is a commit of images. -/
structure Slots (n q : Int) (ps : List (Int × List UInt8)) (c : Int → List UInt8) : Prop where
  mark : c 0 = noteB (ps.length : Int) q
  slot : ∀ (j : Nat) p, ps[j]? = some p → c (slotI n (j : Int)) = packB p.1 q p.2
theorem rdN_note {n m q : Int} {c : Int → List UInt8} (hn : 3 ≤ n) (hs : secR m q = true) (h : c 0 = noteB m q) : rdN (cO n) c = (m, q, 0) := by
  have e : (cO n).rdE c 0 = 0 := if_pos ⟨Int.le_refl 0, by omega⟩
  have l : (cO n).rdL c 0 = noteB m q := (if_pos ⟨Int.le_refl 0, by omega⟩ : _ = c 0).trans h
  obtain ⟨_, h1, h2, _, h3⟩ := un_pack (note_pack hs)
  unfold rdN
  rw [if_pos e, l]
  unfold noteB
  rw [h1, h2, h3]
theorem slots_whl {n q : Int} {ps : List (Int × List UInt8)} {c : Int → List UInt8} (hI : Ims n q ps) (h : Slots n q ps c) : ∀ k i : Nat, i + k = ps.length → whl (cO n) c q k i = some (homW n q (ps.drop i))
  | 0, i, e => by
    rw [List.drop_of_length_le (by omega)]
    rfl
  | k + 1, i, e => by
    have hi : i < ps.length := by omega
    have hx : ps[i]? = some ps[i] := List.getElem?_eq_getElem hi
    have hpk := hI.pack (List.getElem_mem hi)
    obtain ⟨_, u1, u2, _, u4⟩ := un_pack hpk
    have hl := hI.len
    obtain ⟨g1, g2, g3⟩ := slot_range (n := n) (i := (i : Int)) (by omega)
    have hL : (cO n).rdL c (slotI n (i : Int)) = packB ps[i].1 q ps[i].2 := (if_pos ⟨g2, g3⟩ : _ = c (slotI n (i : Int))).trans (h.slot i _ hx)
    have hE : (cO n).rdE c (slotI n (i : Int)) = 0 := if_pos ⟨g2, g3⟩
    have hY : slotY (cO n) c q (i : Int) = true := by
      show (isPg n (i : Int) && (((cO n).rdE c (slotI n (i : Int)) == 0) && ((unE ((cO n).rdL c (slotI n (i : Int))) == 0) && ((unQ ((cO n).rdL c (slotI n (i : Int))) == q) && isPg n (unP ((cO n).rdL c (slotI n (i : Int)))))))) = true
      rw [hL, hE, u1, u2, u4, isPg_iff.2 (by omega : 0 ≤ (i : Int) ∧ (i : Int) < pagesN n), (hI.pg _ (List.getElem_mem hi)).1]
      simp
    have hP : slotP (cO n) c (i : Int) = (homeI n ps[i].1, packB ps[i].1 q ps[i].2) := by
      show (homeI n (unP ((cO n).rdL c (slotI n (i : Int)))), (cO n).rdL c (slotI n (i : Int))) = _
      rw [hL, u1]
    show (if slotY (cO n) c q (i : Int) = true then (whl (cO n) c q k (i + 1)).map (slotP (cO n) c (i : Int) :: ·) else none) = _
    rw [if_pos hY, slots_whl hI h k (i + 1) (by omega), hP, List.drop_eq_getElem_cons hi]
    rfl
theorem slots_whole {n q : Int} {ps : List (Int × List UInt8)} {c : Int → List UInt8} (hI : Ims n q ps) (h : Slots n q ps c) : wholeO (cO n) c (ps.length : Int) q = some (homW n q ps) := by
  unfold wholeO
  rw [if_neg (by have := hI.len; show ¬ (ps.length : Int) > pagesN n; omega), Int.toNat_natCast, slots_whl hI h ps.length 0 (by omega), List.drop_zero]
end Go.Proofs.YtmpiggcooboenaaGreatDoor.Al
/- Logs: the plain law, 4: committing, opening, crashes. -/
namespace Go.Proofs.YtmpiggcooboenaaGreatDoor.Al
open Go Go.Al Go.Proofs Go.RowKit
set_option maxRecDepth 100000
set_option linter.unusedVariables false
set_option linter.unusedSimpArgs false
/-- What stands on a disk all of whose pages are at home. -/
structure Base (n cnt q : Int) (c0 : Int → List UInt8) : Prop where
  rd : rdN (cO n) c0 = (cnt, q, 0)
  same : ∀ ws, wholeO (cO n) c0 cnt q = some ws → OkW n ws ∧ ∀ p ∈ ws, c0 p.1 = p.2
/-- .. of which slots alone are otherwise, by another number. -/
structure Old (n q : Int) (c0 c : Int → List UInt8) : Prop where
  mark : c 0 = c0 0
  home : ∀ p, isPg n p = true → c (homeI n p) = c0 (homeI n p)
  slot : ∀ i, isPg n i = true → c (slotI n i) = c0 (slotI n i) ∨ unQ (c (slotI n i)) ≠ q
structure New (n q : Int) (ps : List (Int × List UInt8)) (c0 c : Int → List UInt8) : Prop where
  slots : Slots n q ps c
  home : ∀ p, isPg n p = true → c (homeI n p) = c0 (homeI n p) ∨ ∃ x ∈ ps, x.1 = p ∧ c (homeI n p) = packB p q x.2
structure Done (n q : Int) (ps : List (Int × List UInt8)) (c0 c : Int → List UInt8) : Prop where
  slots : Slots n q ps c
  yes : ∀ x ∈ ps, c (homeI n x.1) = packB x.1 q x.2
  no : ∀ p, isPg n p = true → (∀ x ∈ ps, x.1 ≠ p) → c (homeI n p) = c0 (homeI n p)
theorem Done.new {n q : Int} {ps : List (Int × List UInt8)} {c0 c : Int → List UInt8} (h : Done n q ps c0 c) : New n q ps c0 c := ⟨h.slots, fun p hp => by
  by_cases e : ∃ x ∈ ps, x.1 = p
  · obtain ⟨x, hx, rfl⟩ := e
    exact .inr ⟨x, hx, rfl, h.yes x hx⟩
  · exact .inl (h.no p hp fun x hx e2 => e ⟨x, hx, e2⟩)⟩
theorem whl_ok {n q : Int} (c : Int → List UInt8) : ∀ (k i : Nat) (ws : List (Int × List UInt8)), whl (cO n) c q k i = some ws → ∀ w ∈ ws, ∃ p, isPg n p = true ∧ w.1 = homeI n p ∧ w.2.length = 256
  | 0, i, ws, h, w, hw => by cases h; cases hw
  | k + 1, i, ws, h, w, hw => by
    have h : (if slotY (cO n) c q (i : Int) = true then (whl (cO n) c q k (i + 1)).map (slotP (cO n) c (i : Int) :: ·) else none) = some ws := h
    split at h
    · next hy =>
      cases e : whl (cO n) c q k (i + 1) with
      | none => rw [e] at h; cases h
      | some us =>
        rw [e] at h
        cases h
        rcases List.mem_cons.1 hw with rfl | hw
        · unfold slotY at hy
          simp only [Bool.and_eq_true, beq_iff_eq] at hy
          exact ⟨_, hy.2.2.2.2, rfl, unE_len hy.2.2.1⟩
        · exact whl_ok c k (i + 1) us e w hw
    · cases h
theorem whole_ok {n cnt q : Int} {c : Int → List UInt8} {ws : List (Int × List UInt8)} (h : wholeO (cO n) c cnt q = some ws) : OkW n ws ∧ (∀ w ∈ ws, ∃ p, isPg n p = true ∧ w.1 = homeI n p) ∧ ws.length ≤ 32768 := by
  have hl := wholeO_len h
  have hle := pagesN_le n
  have hl2 : cnt ≤ pagesN n := hl.2
  unfold wholeO at h
  split at h
  · cases h
  · have := whl_ok c _ _ ws h
    refine ⟨fun w hw => ?_, fun w hw => ?_, by omega⟩
    · obtain ⟨p, h1, h2, h3⟩ := this w hw
      obtain ⟨_, g1, g2⟩ := home_range (isPg_iff.1 h1)
      rw [h2]
      exact ⟨⟨g1, g2⟩, h3⟩
    · obtain ⟨p, h1, h2, _⟩ := this w hw
      exact ⟨p, h1, h2⟩
theorem old_whl {n q : Int} {c0 c : Int → List UInt8} (h : Old n q c0 c) : ∀ (k i : Nat) (ws : List (Int × List UInt8)), whl (cO n) c q k i = some ws → whl (cO n) c0 q k i = some ws
  | 0, i, ws, e => e
  | k + 1, i, ws, e => by
    have e : (if slotY (cO n) c q (i : Int) = true then (whl (cO n) c q k (i + 1)).map (slotP (cO n) c (i : Int) :: ·) else none) = some ws := e
    split at e
    · next hy =>
      have hy2 := hy
      unfold slotY at hy
      simp only [Bool.and_eq_true, beq_iff_eq] at hy
      obtain ⟨h1, h2, h3, h4, h5⟩ := hy
      have h1 : isPg n (i : Int) = true := h1
      obtain ⟨_, g2, g3⟩ := slot_range (isPg_iff.1 h1)
      have hL : ∀ c, (cO n).rdL c (slotI n (i : Int)) = c (slotI n (i : Int)) := fun c => if_pos ⟨g2, g3⟩
      have h4 : unQ ((cO n).rdL c (slotI n (i : Int))) = q := h4
      rw [hL] at h4
      have hs := (h.slot (i : Int) h1).resolve_right fun x => x h4
      have hLL : (cO n).rdL c (slotI n (i : Int)) = (cO n).rdL c0 (slotI n (i : Int)) := by rw [hL, hL, hs]
      have hY : slotY (cO n) c0 q (i : Int) = true := by
        rw [← hy2]
        show (isPg n (i : Int) && (_ && ((unE ((cO n).rdL c0 (slotI n (i : Int))) == 0) && ((unQ ((cO n).rdL c0 (slotI n (i : Int))) == q) && isPg n (unP ((cO n).rdL c0 (slotI n (i : Int)))))))) = (isPg n (i : Int) && (_ && ((unE ((cO n).rdL c (slotI n (i : Int))) == 0) && ((unQ ((cO n).rdL c (slotI n (i : Int))) == q) && isPg n (unP ((cO n).rdL c (slotI n (i : Int))))))))
        rw [hLL]
        rfl
      have hP : slotP (cO n) c0 (i : Int) = slotP (cO n) c (i : Int) := by
        show (homeI n (unP ((cO n).rdL c0 (slotI n (i : Int)))), (cO n).rdL c0 (slotI n (i : Int))) = (homeI n (unP ((cO n).rdL c (slotI n (i : Int)))), (cO n).rdL c (slotI n (i : Int)))
        rw [hLL]
      show (if slotY (cO n) c0 q (i : Int) = true then (whl (cO n) c0 q k (i + 1)).map (slotP (cO n) c0 (i : Int) :: ·) else none) = some ws
      rw [if_pos hY, hP]
      cases e2 : whl (cO n) c q k (i + 1) with
      | none => rw [e2] at e; cases e
      | some us =>
        rw [old_whl h k (i + 1) us e2, ← e2]
        exact e
    · cases e
theorem old_whole {n cnt q : Int} {c0 c : Int → List UInt8} (h : Old n q c0 c) {ws : List (Int × List UInt8)} (e : wholeO (cO n) c cnt q = some ws) : wholeO (cO n) c0 cnt q = some ws := by
  unfold wholeO at e ⊢
  split at e
  · cases e
  · next hn =>
    rw [if_neg (show ¬ cnt > pagesN ((cO n).sz c0) from hn)]
    exact old_whl h _ _ ws e
/-- What opening a log keeps true. -/
structure Cls (n cnt q : Int) (X : (Int → List UInt8) → Prop) : Prop where
  rd : ∀ c, X c → rdN (cO n) c = (cnt, q, 0)
  ok : ∀ c ws, X c → wholeO (cO n) c cnt q = some ws → ∀ c', (∀ k, c' k = c k ∨ (k, c' k) ∈ ws) → X c'
theorem home_ne {n p : Int} (h : isPg n p = true) : homeI n p ≠ 0 ∧ ∀ i, isPg n i = true → homeI n p ≠ slotI n i := by
  have h1 := isPg_iff.1 h
  refine ⟨by rw [(home_range h1).1]; omega, fun i hi => ?_⟩
  have h2 := isPg_iff.1 hi
  rw [(home_range h1).1, (slot_range h2).1]
  omega
theorem home_inj {n p p' : Int} (h : isPg n p = true) (h' : isPg n p' = true) (e : homeI n p = homeI n p') : p = p' := by
  rw [(home_range (isPg_iff.1 h)).1, (home_range (isPg_iff.1 h')).1] at e
  omega
theorem cls_old {n cnt q : Int} {c0 : Int → List UInt8} (hn : 3 ≤ n) (hB : Base n cnt q c0) : Cls n cnt q (Old n q c0) := by
  refine ⟨fun c h => ?_, fun c ws h e c' hc => ?_⟩
  · rw [← hB.rd]
    have l : (cO n).rdL c 0 = (cO n).rdL c0 0 := by
      show (if 0 ≤ (0 : Int) ∧ 0 < n then c 0 else []) = (if 0 ≤ (0 : Int) ∧ 0 < n then c0 0 else [])
      rw [h.mark]
    show (if (cO n).rdE c 0 = 0 then (unP ((cO n).rdL c 0), unQ ((cO n).rdL c 0), unE ((cO n).rdL c 0)) else (0, 0, (cO n).rdE c 0)) = (if (cO n).rdE c0 0 = 0 then (unP ((cO n).rdL c0 0), unQ ((cO n).rdL c0 0), unE ((cO n).rdL c0 0)) else (0, 0, (cO n).rdE c0 0))
    rw [l]
    rfl
  · obtain ⟨_, hh, _⟩ := whole_ok e
    obtain ⟨_, hs⟩ := hB.same ws (old_whole h e)
    refine ⟨?_, fun p hp => ?_, fun i hi => ?_⟩
    · rcases hc 0 with e2 | e2
      · rw [e2, h.mark]
      · obtain ⟨p, hp, e3⟩ := hh _ e2
        exact absurd e3.symm (home_ne hp).1
    · rcases hc (homeI n p) with e2 | e2
      · rw [e2, h.home p hp]
      · exact (hs _ e2).symm
    · rcases hc (slotI n i) with e2 | e2
      · rw [e2]; exact h.slot i hi
      · obtain ⟨p, hp, e3⟩ := hh _ e2
        exact absurd e3.symm ((home_ne hp).2 i hi)
theorem slots_keep {n q : Int} {ps : List (Int × List UInt8)} {c c' : Int → List UInt8} {ws : List (Int × List UInt8)} (hl : (ps.length : Int) ≤ pagesN n) (h : Slots n q ps c) (hh : ∀ w ∈ ws, ∃ p, isPg n p = true ∧ w.1 = homeI n p) (hc : ∀ k, c' k = c k ∨ (k, c' k) ∈ ws) : Slots n q ps c' := by
  refine ⟨?_, fun j p hj => ?_⟩
  · rcases hc 0 with e2 | e2
    · rw [e2, h.mark]
    · obtain ⟨p, hp, e3⟩ := hh _ e2
      exact absurd e3.symm (home_ne hp).1
  · have hjl := (List.getElem?_eq_some_iff.1 hj).1
    rcases hc (slotI n (j : Int)) with e2 | e2
    · rw [e2, h.slot j p hj]
    · obtain ⟨x, hx, e3⟩ := hh _ e2
      exact absurd e3.symm ((home_ne hx).2 (j : Int) (isPg_iff.2 (by omega)))
theorem cls_new {n q : Int} {ps : List (Int × List UInt8)} {c0 : Int → List UInt8} (hn : 3 ≤ n) (hI : Ims n q ps) : Cls n (ps.length : Int) q (New n q ps c0) := by
  refine ⟨fun c h => rdN_note hn hI.note h.slots.mark, fun c ws h e c' hc => ?_⟩
  obtain ⟨_, hh, _⟩ := whole_ok e
  rw [slots_whole hI h.slots] at e
  cases e
  refine ⟨slots_keep hI.len h.slots hh hc, fun p hp => ?_⟩
  rcases hc (homeI n p) with e2 | e2
  · rw [e2]; exact h.home p hp
  · obtain ⟨x, hx, e3⟩ := List.mem_map.1 e2
    have e4 := home_inj (hI.pg x hx).1 hp (congrArg Prod.fst e3)
    refine .inr ⟨x, hx, e4, ?_⟩
    have := congrArg Prod.snd e3
    rw [← e4] at this ⊢
    exact this.symm
theorem cls_done {n q : Int} {ps : List (Int × List UInt8)} {c0 : Int → List UInt8} (hn : 3 ≤ n) (hI : Ims n q ps) : Cls n (ps.length : Int) q (Done n q ps c0) := by
  refine ⟨fun c h => rdN_note hn hI.note h.slots.mark, fun c ws h e c' hc => ?_⟩
  obtain ⟨_, hh, _⟩ := whole_ok e
  rw [slots_whole hI h.slots] at e
  cases e
  have key : ∀ p, isPg n p = true → c' (homeI n p) = c (homeI n p) := fun p hp => by
    rcases hc (homeI n p) with e2 | e2
    · exact e2
    · obtain ⟨x, hx, e3⟩ := List.mem_map.1 e2
      have e4 := home_inj (hI.pg x hx).1 hp (congrArg Prod.fst e3)
      have := congrArg Prod.snd e3
      have e5 : packB x.1 q x.2 = c' (homeI n p) := this
      rw [← e5, ← e4, h.yes x hx]
  exact ⟨slots_keep hI.len h.slots hh hc, fun x hx => by rw [key _ (hI.pg x hx).1]; exact h.yes x hx, fun p hp hno => by rw [key p hp]; exact h.no p hp hno⟩
theorem done_of_new {n q : Int} {ps : List (Int × List UInt8)} {c0 c : Int → List UInt8} (hI : Ims n q ps) (h : New n q ps c0 c) : Done n q ps c0 (putAll c (homW n q ps)) := by
  have hh : ∀ w ∈ homW n q ps, ∃ p, isPg n p = true ∧ w.1 = homeI n p := fun w hw => by
    obtain ⟨x, hx, rfl⟩ := List.mem_map.1 hw
    exact ⟨x.1, (hI.pg x hx).1, rfl⟩
  refine ⟨slots_keep hI.len h.slots hh (putAll_or _ c), fun x hx => ?_, fun p hp hno => ?_⟩
  · have := putAll_yes (homW_keys (fun p hp => (hI.pg p hp).1) hI.nod) (p := (homeI n x.1, packB x.1 q x.2)) (List.mem_map.2 ⟨x, hx, rfl⟩) c
    exact this
  · rw [putAll_no _ _ fun w hw e => ?_]
    · rcases h.home p hp with e | ⟨x, hx, e, _⟩
      · exact e
      · exact absurd e (hno x hx)
    · obtain ⟨x, hx, rfl⟩ := List.mem_map.1 hw
      exact hno x hx (home_inj (hI.pg x hx).1 hp e)
/-- Opening a log on a disk that nothing brings down. -/
theorem open_up {s : DS} {cnt q : Int} {X : (Int → List UInt8) → Prop} (hX : Cls s.size cnt q X) (hu : Up s) (hd : DWf s) (hc : Calm s) (hw : s.writes + 32768 < 1000000000) (hx : X (secB s)) :
    (openS dsO s).2 = (0, some q) ∧ Up (openS dsO s).1 ∧ DWf (openS dsO s).1 ∧ Calm (openS dsO s).1 ∧ (openS dsO s).1.size = s.size ∧ X (secB (openS dsO s).1) ∧ (openS dsO s).1.writes ≤ s.writes + 32768 ∧ (∀ ws, wholeO (cO s.size) (secB s) cnt q = some ws → secB (openS dsO s).1 = putAll (secB s) ws ∧ (openS dsO s).1.writes = s.writes + ws.length) := by
  have hS := same_c hu.down
  have h1 : rdN dsO s = (cnt, q, 0) := hS.rdN.trans (hX.rd _ hx)
  have h2 : wholeO dsO s cnt q = wholeO (cO s.size) (secB s) cnt q := hS.whole cnt q
  unfold openS
  rw [h1]
  dsimp only
  rw [if_neg (by decide), h2]
  cases e : wholeO (cO s.size) (secB s) cnt q with
  | none => exact ⟨rfl, hu, hd, hc, rfl, hx, by show s.writes ≤ _; omega, fun ws h => by cases h⟩
  | some ws =>
    obtain ⟨k1, k2, k3⟩ := whole_ok e
    obtain ⟨g1, g2, g3, g4, g5, g6, g7⟩ := runW_up ws s hu hd (by omega) k1
    dsimp only
    rw [if_neg (by rw [g1]; decide)]
    refine ⟨rfl, g2, g3, g4, g7, hX.ok _ ws hx e _ fun k => ?_, by show (runW dsO s ws).1.writes ≤ _; omega, fun us h => by cases h; exact ⟨funext g5, g6⟩⟩
    show secB (runW dsO s ws).1 k = secB s k ∨ (k, secB (runW dsO s ws).1 k) ∈ ws
    rw [g5]
    exact putAll_or ws _ k
/-- Opening a log on a disk that may go down, and a crash behind. -/
theorem open_mid {s : DS} {cnt q : Int} {X : (Int → List UInt8) → Prop} (hX : Cls s.size cnt q X) (hu : s.down = false) (hd : DWf s) (hc : Calm s) (hw : s.writes + 32768 < 1000000000) (hx : X (secB s)) (keep : List Int) :
    Up (crashS (openS dsO s).1 keep) ∧ DWf (crashS (openS dsO s).1 keep) ∧ Calm (crashS (openS dsO s).1 keep) ∧ (crashS (openS dsO s).1 keep).size = s.size ∧ X (secB (crashS (openS dsO s).1 keep)) ∧ (crashS (openS dsO s).1 keep).writes ≤ s.writes + 32768 ∧ DWf (openS dsO s).1 := by
  have hS := same_c hu
  have h1 : rdN dsO s = (cnt, q, 0) := hS.rdN.trans (hX.rd _ hx)
  have h2 : wholeO dsO s cnt q = wholeO (cO s.size) (secB s) cnt q := hS.whole cnt q
  have he : ∃ ws, (openS dsO s).1 = s ∨ ((openS dsO s).1 = (runW dsO s ws).1 ∧ wholeO (cO s.size) (secB s) cnt q = some ws) := by
    unfold openS
    rw [h1]
    dsimp only
    rw [if_neg (by decide), h2]
    cases e : wholeO (cO s.size) (secB s) cnt q with
    | none => exact ⟨[], .inl rfl⟩
    | some ws =>
      dsimp only
      split
      · exact ⟨ws, .inr ⟨rfl, rfl⟩⟩
      · exact ⟨ws, .inr ⟨rfl, rfl⟩⟩
  obtain ⟨ws, e | ⟨e, hw2⟩⟩ := he
  · rw [e]
    obtain ⟨g1, g2, g3, g4, g5, g6⟩ := calm_crash hd hc keep
    exact ⟨g3, g1, g2, g4, by rw [funext g6]; exact hx, by omega, hd⟩
  · rw [e]
    obtain ⟨k1, k2, k3⟩ := whole_ok hw2
    obtain ⟨l1, l2⟩ := runW_le ws s
    rcases runW_mid ws [] s hu (mid_calm hd hc) (by omega) k1 with ⟨g1, g2, g3, g4, g5⟩ | ⟨g1, g2⟩
    · obtain ⟨m1, m2, m3, m4, m5, m6⟩ := calm_crash g3 g4 keep
      refine ⟨m3, m1, m2, m4.trans l2, hX.ok _ ws hx hw2 _ fun k => ?_, by omega, g3⟩
      rw [m6, g5]
      exact putAll_or ws _ k
    · rw [List.nil_append] at g2
      obtain ⟨m1, m2, m3, m4, m5, m6⟩ := mid_crash g2 keep
      exact ⟨m3, m1, m2, m4.trans l2, hX.ok _ ws hx hw2 _ m6, by omega, g2.wf⟩
end Go.Proofs.YtmpiggcooboenaaGreatDoor.Al
/- Logs: the plain law, 5: commits, and what pages tell. -/
namespace Go.Proofs.YtmpiggcooboenaaGreatDoor.Al
open Go Go.Al Go.Proofs Go.RowKit
set_option maxRecDepth 100000
set_option linter.unusedVariables false
set_option linter.unusedSimpArgs false
theorem putLog {n q : Int} {ps : List (Int × List UInt8)} (hI : Ims n q ps) (c : Int → List UInt8) : (∀ (j : Nat) p, ps[j]? = some p → putAll c (logW n q 0 ps) (slotI n (j : Int)) = packB p.1 q p.2) ∧ putAll c (logW n q 0 ps) 0 = c 0 ∧ (∀ p, isPg n p = true → putAll c (logW n q 0 ps) (homeI n p) = c (homeI n p)) := by
  have hl := hI.len
  refine ⟨fun j p hj => ?_, putAll_no _ _ (fun w hw e => ?_) _, fun p hp => putAll_no _ _ (fun w hw e => ?_) _⟩
  · have hm := logW_at n q ps 0 j p hj
    rw [Nat.zero_add] at hm
    exact putAll_yes (logW_keys n q ps 0 (by omega)) hm c
  · obtain ⟨j, p, h1, rfl⟩ := logW_of n q ps 0 w hw
    have hj := (List.getElem?_eq_some_iff.1 h1).1
    have e : slotI n ((0 + j : Nat) : Int) = 0 := e
    rw [(slot_range (n := n) (i := ((0 + j : Nat) : Int)) (by omega)).1] at e
    omega
  · obtain ⟨j, x, h1, rfl⟩ := logW_of n q ps 0 w hw
    have hj := (List.getElem?_eq_some_iff.1 h1).1
    exact (home_ne hp).2 ((0 + j : Nat) : Int) (isPg_iff.2 (by omega)) e.symm
theorem put_one (c : Int → List UInt8) (l : List UInt8) (k : Int) : putAll c [(0, l)] k = if k = 0 then l else c k := rfl
theorem slots_put {n q : Int} {ps : List (Int × List UInt8)} (hI : Ims n q ps) (c : Int → List UInt8) : Slots n q ps (putAll (putAll c (logW n q 0 ps)) [(0, noteB (ps.length : Int) q)]) ∧ ∀ p, isPg n p = true → putAll (putAll c (logW n q 0 ps)) [(0, noteB (ps.length : Int) q)] (homeI n p) = c (homeI n p) := by
  obtain ⟨h1, h2, h3⟩ := putLog hI c
  have hl := hI.len
  refine ⟨⟨by rw [put_one, if_pos rfl], fun j p hj => ?_⟩, fun p hp => ?_⟩
  · have hjl := (List.getElem?_eq_some_iff.1 hj).1
    rw [put_one, if_neg (by rw [(slot_range (n := n) (i := (j : Int)) (by omega)).1]; omega)]
    exact h1 j p hj
  · rw [put_one, if_neg (home_ne hp).1]
    exact h3 p hp
theorem Ims.right {n q : Int} {ps : List (Int × List UInt8)} (h : Ims n q ps) : rightL n ps [] = true := (right_iff n ps []).2 ⟨fun p hp => ⟨(h.pg p hp).1, (h.pg p hp).2, List.not_mem_nil⟩, h.nod⟩
theorem commit_eq {s : DS} {q : Int} {ps : List (Int × List UInt8)} (hI : Ims s.size (q + 1) ps) (h0 : ps ≠ []) : commitS dsO s q ps =
    if (runW dsO s (logW s.size (q + 1) 0 ps)).2 ≠ 0 then ((runW dsO s (logW s.size (q + 1) 0 ps)).1, (runW dsO s (logW s.size (q + 1) 0 ps)).2, q) else
    if (runW dsO (runW dsO s (logW s.size (q + 1) 0 ps)).1 [(0, noteB ps.length (q + 1))]).2 ≠ 0 then ((runW dsO (runW dsO s (logW s.size (q + 1) 0 ps)).1 [(0, noteB ps.length (q + 1))]).1, (runW dsO (runW dsO s (logW s.size (q + 1) 0 ps)).1 [(0, noteB ps.length (q + 1))]).2, q) else
    ((runW dsO (runW dsO (runW dsO s (logW s.size (q + 1) 0 ps)).1 [(0, noteB ps.length (q + 1))]).1 (homW s.size (q + 1) ps)).1, (runW dsO (runW dsO (runW dsO s (logW s.size (q + 1) 0 ps)).1 [(0, noteB ps.length (q + 1))]).1 (homW s.size (q + 1) ps)).2, q + 1) := by
  unfold commitS
  rw [if_neg (by have := hI.len; show ¬ (ps.length : Int) > pagesN s.size; omega), if_neg (by show ¬ rightL s.size ps [] = false; rw [hI.right]; decide), if_neg (by intro e; exact h0 (List.length_eq_zero_iff.1 e))]
  rfl
theorem commit_none (s : DS) (q : Int) : commitS dsO s q [] = (s, 0, q) := by
  unfold commitS
  have := pagesN_le s.size
  rw [if_neg (by show ¬ ((0 : Nat) : Int) > pagesN s.size; omega), if_neg (by show ¬ true = false; decide)]
  rfl
theorem note_ok {n q : Int} {ps : List (Int × List UInt8)} (hn : 3 ≤ n) (hI : Ims n q ps) : OkW n [(0, noteB (ps.length : Int) q)] := fun p hp => by
  have h := noteB_len hI.note
  generalize noteB (ps.length : Int) q = l at h hp
  rw [List.mem_singleton] at hp
  subst hp
  exact ⟨⟨Int.le_refl 0, by show (0 : Int) < n; omega⟩, h⟩
/-- A commit that nothing stops. -/
theorem commit_up {s : DS} {q : Int} {ps : List (Int × List UInt8)} (hI : Ims s.size (q + 1) ps) (h0 : ps ≠ []) (hu : Up s) (hd : DWf s) (hw : s.writes + 100000 < 1000000000) :
    (commitS dsO s q ps).2 = (0, q + 1) ∧ Up (commitS dsO s q ps).1 ∧ DWf (commitS dsO s q ps).1 ∧ Calm (commitS dsO s q ps).1 ∧ (commitS dsO s q ps).1.size = s.size ∧ Done s.size (q + 1) ps (secB s) (secB (commitS dsO s q ps).1) ∧ (commitS dsO s q ps).1.writes = s.writes + 2 * ps.length + 1 := by
  have hn := hd.sz.1
  have hl := hI.len
  have hle := pagesN_le s.size
  have e1 := logW_len s.size (q + 1) 0 ps
  have e2 : (homW s.size (q + 1) ps).length = ps.length := by unfold homW; rw [List.length_map]
  obtain ⟨a1, a2, a3, a4, a5, a6, a7⟩ := runW_up (logW s.size (q + 1) 0 ps) s hu hd (by omega) (logW_ok hI)
  have hce := commit_eq hI h0
  rw [if_neg (by rw [a1]; decide)] at hce
  generalize runW dsO s (logW s.size (q + 1) 0 ps) = r1 at a1 a2 a3 a4 a5 a6 a7 hce
  obtain ⟨b1, b2, b3, b4, b5, b6, b7⟩ := runW_up [(0, noteB (ps.length : Int) (q + 1))] r1.1 a2 a3 (by show r1.1.writes + ((1 : Nat) : Int) < _; omega) (by rw [a7]; exact note_ok hn hI)
  rw [if_neg (by rw [b1]; decide)] at hce
  generalize runW dsO r1.1 [(0, noteB (ps.length : Int) (q + 1))] = r2 at b1 b2 b3 b4 b5 b6 b7 hce
  replace b6 : r2.1.writes = r1.1.writes + ((1 : Nat) : Int) := b6
  obtain ⟨c1, c2, c3, c4, c5, c6, c7⟩ := runW_up (homW s.size (q + 1) ps) r2.1 b2 b3 (by omega) (by rw [b7, a7]; exact homW_ok hI)
  rw [hce]
  refine ⟨by rw [c1], c2, c3, c4, c7.trans (b7.trans a7), ?_, by show (runW dsO r2.1 (homW s.size (q + 1) ps)).1.writes = _; omega⟩
  have hs : secB (runW dsO r2.1 (homW s.size (q + 1) ps)).1 = putAll (putAll (putAll (secB s) (logW s.size (q + 1) 0 ps)) [(0, noteB (ps.length : Int) (q + 1))]) (homW s.size (q + 1) ps) := by
    funext k
    rw [c5, show secB r2.1 = putAll (secB r1.1) [(0, noteB (ps.length : Int) (q + 1))] from funext b5, show secB r1.1 = putAll (secB s) (logW s.size (q + 1) 0 ps) from funext a5]
  show Done s.size (q + 1) ps (secB s) (secB (runW dsO r2.1 (homW s.size (q + 1) ps)).1)
  rw [hs]
  obtain ⟨g1, g2⟩ := slots_put hI (secB s)
  exact done_of_new hI ⟨g1, fun p hp => .inl (g2 p hp)⟩
/-- A commit that the disk may go down in, and a crash behind. -/
theorem commit_mid {s : DS} {q : Int} {ps : List (Int × List UInt8)} (hI : Ims s.size (q + 1) ps) (h0 : ps ≠ []) (hu : s.down = false) (hd : DWf s) (hc : Calm s) (hw : s.writes + 200000 < 1000000000) (keep : List Int) :
    Up (crashS (commitS dsO s q ps).1 keep) ∧ DWf (crashS (commitS dsO s q ps).1 keep) ∧ Calm (crashS (commitS dsO s q ps).1 keep) ∧ (crashS (commitS dsO s q ps).1 keep).size = s.size ∧ (crashS (commitS dsO s q ps).1 keep).writes ≤ s.writes + 100000 ∧
    (((commitS dsO s q ps).2.1 ≠ 0 ∧ Old s.size q (secB s) (secB (crashS (commitS dsO s q ps).1 keep))) ∨ New s.size (q + 1) ps (secB s) (secB (crashS (commitS dsO s q ps).1 keep))) := by
  have hn := hd.sz.1
  have hl := hI.len
  have hle := pagesN_le s.size
  have e1 := logW_len s.size (q + 1) 0 ps
  have e2 : (homW s.size (q + 1) ps).length = ps.length := by unfold homW; rw [List.length_map]
  have hce := commit_eq hI h0
  obtain ⟨p1, p2, p3⟩ := putLog hI (secB s)
  obtain ⟨l1, l2⟩ := runW_le (logW s.size (q + 1) 0 ps) s
  have oldc : ∀ c : Int → List UInt8, (∀ k, c k = secB s k ∨ (k, c k) ∈ logW s.size (q + 1) 0 ps) → Old s.size q (secB s) c := fun c h => by
    have hk : ∀ k, (k, c k) ∈ logW s.size (q + 1) 0 ps → ∃ (j : Nat) (p : Int × List UInt8), isPg s.size (j : Int) = true ∧ k = slotI s.size (j : Int) ∧ p ∈ ps ∧ c k = packB p.1 (q + 1) p.2 := fun k hm => by
      obtain ⟨j, p, h1, h2⟩ := logW_of _ _ ps 0 _ hm
      have hj := (List.getElem?_eq_some_iff.1 h1).1
      rw [Nat.zero_add] at h2
      exact ⟨j, p, isPg_iff.2 (by omega), congrArg Prod.fst h2, List.mem_of_getElem? h1, congrArg Prod.snd h2⟩
    refine ⟨(h 0).resolve_right fun e => ?_, fun p hp => (h _).resolve_right fun e => ?_, fun i hi => (h _).imp id fun e => ?_⟩
    · obtain ⟨j, p, h1, h2, _⟩ := hk 0 e
      rw [(slot_range (isPg_iff.1 h1)).1] at h2
      have := isPg_iff.1 h1
      omega
    · obtain ⟨j, x, h1, h2, _⟩ := hk _ e
      exact (home_ne hp).2 _ h1 h2
    · obtain ⟨j, x, h1, h2, h3, h4⟩ := hk _ e
      obtain ⟨_, _, u2, _⟩ := un_pack (hI.pack h3)
      rw [h4, u2]
      omega
  rcases runW_mid (logW s.size (q + 1) 0 ps) [] s hu (mid_calm hd hc) (by omega) (logW_ok hI) with ⟨a1, a2, a3, a4, a5⟩ | ⟨a1, a2⟩
  rotate_left
  · rw [if_pos a1] at hce
    rw [hce]
    rw [List.nil_append] at a2
    obtain ⟨m1, m2, m3, m4, m5, m6⟩ := mid_crash a2 keep
    exact ⟨m3, m1, m2, m4.trans l2, by show (crashS (runW dsO s (logW s.size (q + 1) 0 ps)).1 keep).writes ≤ _; omega, .inl ⟨a1, oldc _ m6⟩⟩
  rw [if_neg (by rw [a1]; decide)] at hce
  generalize runW dsO s (logW s.size (q + 1) 0 ps) = r1 at a1 a2 a3 a4 a5 l1 l2 hce
  have hs1 : secB r1.1 = putAll (secB s) (logW s.size (q + 1) 0 ps) := funext a5
  obtain ⟨k1, k2⟩ := runW_le [(0, noteB (ps.length : Int) (q + 1))] r1.1
  replace k1 : (runW dsO r1.1 [(0, noteB (ps.length : Int) (q + 1))]).1.writes ≤ r1.1.writes + ((1 : Nat) : Int) := k1
  rcases runW_mid [(0, noteB (ps.length : Int) (q + 1))] [] r1.1 a2 (mid_calm a3 a4) (by show r1.1.writes + ((1 : Nat) : Int) < _; omega) (by rw [l2]; exact note_ok hn hI) with ⟨b1, b2, b3, b4, b5⟩ | ⟨b1, b2⟩
  rotate_left
  · rw [if_pos b1] at hce
    rw [hce]
    rw [List.nil_append] at b2
    obtain ⟨m1, m2, m3, m4, m5, m6⟩ := mid_crash b2 keep
    refine ⟨m3, m1, m2, m4.trans (k2.trans l2), by show (crashS (runW dsO r1.1 [(0, noteB (ps.length : Int) (q + 1))]).1 keep).writes ≤ _; omega, ?_⟩
    generalize crashS (runW dsO r1.1 [(0, noteB (ps.length : Int) (q + 1))]).1 keep = s2 at m6
    have hk : ∀ k, k ≠ 0 → secB s2 k = putAll (secB s) (logW s.size (q + 1) 0 ps) k := fun k h => by
      rw [← hs1]
      refine (m6 k).resolve_right fun e => ?_
      rw [List.mem_singleton] at e
      exact h (congrArg Prod.fst e)
    rcases m6 0 with e | e
    · refine .inl ⟨b1, oldc _ fun k => ?_⟩
      by_cases h : k = 0
      · subst h
        rw [e, hs1]
        exact .inl p2
      · rw [hk k h]
        exact putAll_or _ _ k
    · rw [List.mem_singleton] at e
      refine .inr ⟨⟨(Prod.mk.inj e).2, fun j p hj => ?_⟩, fun p hp => .inl ?_⟩
      · have hjl := (List.getElem?_eq_some_iff.1 hj).1
        rw [hk _ (by rw [(slot_range (n := s.size) (i := (j : Int)) (by omega)).1]; omega)]
        exact p1 j p hj
      · rw [hk _ (home_ne hp).1]
        exact p3 p hp
  rw [if_neg (by rw [b1]; decide)] at hce
  generalize runW dsO r1.1 [(0, noteB (ps.length : Int) (q + 1))] = r2 at b1 b2 b3 b4 b5 k1 k2 hce
  have hs2 : secB r2.1 = putAll (putAll (secB s) (logW s.size (q + 1) 0 ps)) [(0, noteB (ps.length : Int) (q + 1))] := by rw [← hs1]; exact funext b5
  obtain ⟨g1, g2⟩ := slots_put hI (secB s)
  rw [← hs2] at g1
  obtain ⟨j1, j2⟩ := runW_le (homW s.size (q + 1) ps) r2.1
  have hnew : New s.size (q + 1) ps (secB s) (secB r2.1) := ⟨g1, fun p hp => .inl (by rw [hs2]; exact g2 p hp)⟩
  have hX := cls_new (c0 := secB s) hn hI
  have hwh := slots_whole hI g1
  rw [hce]
  rcases runW_mid (homW s.size (q + 1) ps) [] r2.1 b2 (mid_calm b3 b4) (by omega) (by rw [k2, l2]; exact homW_ok hI) with ⟨c1, c2, c3, c4, c5⟩ | ⟨c1, c2⟩
  · obtain ⟨m1, m2, m3, m4, m5, m6⟩ := calm_crash c3 c4 keep
    refine ⟨m3, m1, m2, m4.trans (j2.trans (k2.trans l2)), by show (crashS (runW dsO r2.1 (homW s.size (q + 1) ps)).1 keep).writes ≤ _; omega, .inr (hX.ok _ _ hnew hwh _ fun k => ?_)⟩
    show secB (crashS (runW dsO r2.1 (homW s.size (q + 1) ps)).1 keep) k = _ ∨ _
    rw [m6, c5]
    exact putAll_or _ _ k
  · rw [List.nil_append] at c2
    obtain ⟨m1, m2, m3, m4, m5, m6⟩ := mid_crash c2 keep
    exact ⟨m3, m1, m2, m4.trans (j2.trans (k2.trans l2)), by show (crashS (runW dsO r2.1 (homW s.size (q + 1) ps)).1 keep).writes ≤ _; omega, .inr (hX.ok _ _ hnew hwh _ m6)⟩
theorem base_done {n q : Int} {ps : List (Int × List UInt8)} {c0 c : Int → List UInt8} (hn : 3 ≤ n) (hI : Ims n q ps) (h : Done n q ps c0 c) : Base n (ps.length : Int) q c := by
  refine ⟨rdN_note hn hI.note h.slots.mark, fun ws e => ?_⟩
  rw [slots_whole hI h.slots] at e
  cases e
  refine ⟨homW_ok hI, fun p hp => ?_⟩
  obtain ⟨x, hx, rfl⟩ := List.mem_map.1 hp
  exact h.yes x hx
/-- Pages with some of them otherwise. -/
def vw (ps : List (Int × List UInt8)) (g : Int → List UInt8) (p : Int) : List UInt8 := putAll g ps p
theorem pg_old {n q : Int} {c0 c : Int → List UInt8} (h : Old n q c0 c) {p : Int} (hp : isPg n p = true) : pgOf n c p = pgOf n c0 p := by unfold pgOf; rw [h.home p hp]
theorem pg_pack {n q : Int} {ps : List (Int × List UInt8)} {c : Int → List UInt8} (hI : Ims n q ps) {x : Int × List UInt8} (hx : x ∈ ps) (h : c (homeI n x.1) = packB x.1 q x.2) : pgOf n c x.1 = x.2 := by
  obtain ⟨_, u1, _, u3, u4⟩ := un_pack (hI.pack hx)
  unfold pgOf
  rw [h, u1, u3, u4, if_neg (by rintro (e | e) <;> exact e rfl)]
theorem pg_done {n q : Int} {ps : List (Int × List UInt8)} {c0 c : Int → List UInt8} (hI : Ims n q ps) (h : Done n q ps c0 c) {p : Int} (hp : isPg n p = true) : pgOf n c p = putAll (pgOf n c0) ps p := by
  by_cases e : ∃ x ∈ ps, x.1 = p
  · obtain ⟨x, hx, rfl⟩ := e
    rw [pg_pack hI hx (h.yes x hx)]
    exact (putAll_yes hI.nod hx _).symm
  · have hno : ∀ x ∈ ps, x.1 ≠ p := fun x hx e2 => e ⟨x, hx, e2⟩
    rw [putAll_no _ _ hno]
    unfold pgOf
    rw [h.no p hp hno]
theorem pg_len (n : Int) (c : Int → List UInt8) (p : Int) : (pgOf n c p).length = 240 := by
  unfold pgOf
  split
  · unfold zeros240; rw [List.length_replicate]
  · next h =>
    have h1 : unE (c (homeI n p)) = 0 := by
      cases e : decide (unE (c (homeI n p)) = 0) with
      | true => exact of_decide_eq_true e
      | false => exact absurd (.inl (of_decide_eq_false e)) h
    have hl := unE_len h1
    unfold unE at h1
    split at h1
    · next ho =>
      unfold unD
      rw [if_pos ho, List.length_drop, hl]
    · cases h1
end Go.Proofs.YtmpiggcooboenaaGreatDoor.Al

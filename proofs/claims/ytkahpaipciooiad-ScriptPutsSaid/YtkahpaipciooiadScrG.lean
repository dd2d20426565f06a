/- The contract of script.kept, over what is known of memory. -/
import Derived.Test.YtkahpaipciooiadScrF
namespace Go.Proofs.Ytkahpaipciooiad.Al
open Go Go.Al Go.Proofs Go.RowKit
set_option maxHeartbeats 8000000
set_option maxRecDepth 100000
set_option linter.unusedVariables false
set_option linter.unusedSimpArgs false
def kMany (b : List UInt8) : Nat := (b.getD 0 0).toNat
def keptOk (b : List UInt8) : Prop := 1 + 2 * kMany b ≤ b.length ∧ 1 ≤ b.length
instance (b : List UInt8) : Decidable (keptOk b) := by unfold keptOk; infer_instance
def keptL (b : List UInt8) : List Int := (List.range (kMany b)).map fun i => getN b (1 + 2 * i) 2
theorem keptL_len (b : List UInt8) : (keptL b).length = kMany b := by simp [keptL]
theorem keptL_take (b : List UInt8) (j : Nat) (h : j < kMany b) : (keptL b).take (j + 1) = (keptL b).take j ++ [getN b (1 + 2 * j) 2] := by
  have : (keptL b)[j]? = some (getN b (1 + 2 * j) 2) := by simp [keptL, h]
  rw [List.take_add_one, this]
  rfl
theorem byte_at {b : List UInt8} {j : Nat} (h : j < b.length) : (bytesOf b)[j]? = some (.int .u8 (b.getD j 0).toNat) := by
  unfold bytesOf
  rw [List.getElem?_map, List.getD_eq_getElem?_getD, List.getElem?_eq_getElem h]
  rfl
theorem kept (b : List UInt8) (A : Option Addr) (c : Nat) (F : Heap) (hr : RowAt F A (bytesOf b)) (hl : b.length ≤ 100000) (hc : b.length ≤ c) :
    FnK Try.prog 69 #[.slice A b.length c] F (fun v F' => (if keptOk b then ∃ S, v = .tuple #[S, .int .i64 ((1 + 2 * kMany b : Nat) : Int), .bool true] ∧ Mine F F' S 3 1 (keptL b).length ((keptL b).map (.int .i64)) else v = .tuple #[.slice none 0 0, .int .i64 0, .bool false]) ∧ Ext F F') := by
  have no : ∀ F' v, ¬ keptOk b → v = Value.tuple #[.slice none 0 0, .int .i64 0, .bool false] → Ext F F' → ((if keptOk b then ∃ S, v = .tuple #[S, .int .i64 ((1 + 2 * kMany b : Nat) : Int), .bool true] ∧ Mine F F' S 3 1 (keptL b).length ((keptL b).map (.int .i64)) else v = .tuple #[.slice none 0 0, .int .i64 0, .bool false]) ∧ Ext F F') := by
    intro F' v h hv hX
    rw [if_neg h]
    exact ⟨hv, hX⟩
  (refine fn_walk tab_ok Try.func69 rfl rfl rfl rfl ?_; (conv => whnf))
  refine cond_split (fun h => ?_) (fun h => ?_)
  · have h : ((b.length : Int) == 0) = true := h
    rw [beq_iff_eq] at h
    (conv => whnf)
    exact no _ _ (fun hk => by have := hk.2; omega) rfl (Ext.refl F)
  have h1 : 1 ≤ b.length := by
    have h : ((b.length : Int) == 0) = false := h
    have : ¬ (b.length : Int) = 0 := by
      intro e
      rw [e] at h
      cases h
    omega
  obtain ⟨ad, rfl⟩ := hr.some (by rw [bytes_len]; omega)
  have hb0 := byte_at (show 0 < b.length by omega)
  have hxl := (b.getD 0 0).toNat_lt
  have hkm : kMany b = (b.getD 0 0).toNat := rfl
  generalize b.getD 0 0 = x0 at hb0 hxl hkm
  have hw0 : IntKind.i64.wrap (x0.toNat : Int) = ((kMany b : Nat) : Int) := by rw [hkm, IntKind.wrap_i64]; omega
  (conv => whnf)
  refine ⟨⟨by decide, by omega⟩, ?_⟩
  (conv => whnf)
  refine load_step (v := .int .u8 (x0.toNat : Int)) ?_ ?_
  · show F.cell? (ad.add 0) = _
    exact hr.cell hb0
  (conv => whnf)
  refine loop_slots [0, 5, 6, 15, 16] (fun mm vs F' => ∃ (j : Nat) (S : Value), j + mm = kMany b ∧ vs = [.slice (some ad) b.length c, S, .int .i64 ((1 + 2 * j : Nat) : Int), .int .i64 (kMany b : Int), .int .i64 (j : Int)] ∧ (j = 0 ∨ 1 + 2 * j ≤ b.length) ∧ Mine F F' S 3 1 ((keptL b).take j).length (((keptL b).take j).map (.int .i64))) (kMany b) ⟨0, .slice none 0 0, by omega, by rw [← hw0]; rfl, .inl rfl, Mine.nil _ _ _ _ (Ext.refl F)⟩ ?_
  rintro mm vs F2 ρ ⟨j, S, hjm, rfl, hfit, hM⟩
  (conv => whnf)
  refine cond_split (fun h => ?_) (fun h => ?_)
  · have hj : j < kMany b := by have := of_decide_eq_true h; omega
    have hg := getG 2 (.inr (.inl rfl)) b (some ad) c (1 + 2 * j) F2 (hr.mono hM.ext) (by omega) hc (by omega)
    have hkt := keptL_take b j hj
    have hll : ((keptL b).take j).length ≤ 255 := by rw [List.length_take, keptL_len]; omega
    by_cases hf : 1 + 2 * j + 2 ≤ b.length
    · have e1 : getE b (1 + 2 * j) 2 = 0 := if_pos hf
      rw [e1] at hg
      generalize getN b (1 + 2 * j) 2 = w at hg hkt
      generalize (keptL b).take j = cur at hkt hM hll
      (conv => whnf)
      refine call_of hg ?_
      rintro v F2 ⟨rfl, rfl⟩
      (conv => whnf)
      refine new_step (.cells #[.int .i64 w] 3) rfl fun g hgn => ?_
      have hX := Ext.new hgn (.cells #[.int .i64 w] 3)
      have hG := Heap.put_same F2 g (.cells #[.int .i64 w] 3)
      have hM3 := hM.mono hX
      generalize F2.put g _ = F3 at hG hM3 ⊢
      (conv => whnf)
      refine append_mine tab_ok (m := 1) (ys := [.int .i64 w]) (y := .slice (some ⟨g, 0, none⟩) 1 1) rfl rfl rfl rfl rfl ⟨_, rfl, fun k h => by cases h⟩ ⟨_, rfl, rfl⟩ (by decide) hM3 ⟨rfl, .inl ⟨_, _, rfl, fun j v hj => ⟨_, rfl, by rw [add_plain, Heap.cell_at hG, Nat.zero_add, ← Array.getElem?_toList]; exact hj⟩⟩⟩ (fun v hv => by rw [List.mem_singleton.1 hv]; rfl) (by show 2 * (cur.length + 1) * 8 ≤ _; omega) fun s' F4 hM4 _ => ?_
      (conv => whnf)
      refine ⟨mm - 1, by omega, j + 1, s', by omega, ?_, .inr (by omega), ?_⟩
      · have hw : IntKind.i64.wrap ((j : Int) + 1) = ((j + 1 : Nat) : Int) := by rw [IntKind.wrap_i64]; omega
        have hw2 : IntKind.i64.wrap (((1 + 2 * j : Nat) : Int) + 2) = ((1 + 2 * (j + 1) : Nat) : Int) := by rw [IntKind.wrap_i64]; omega
        rw [← hw, ← hw2]
        rfl
      · rw [hkt, List.length_append, List.map_append]
        exact hM4
    · have e1 : getE b (1 + 2 * j) 2 = 3 := if_neg hf
      rw [e1] at hg
      (conv => whnf)
      refine call_of hg ?_
      rintro v F2 ⟨rfl, rfl⟩
      (conv => whnf)
      exact no _ _ (fun hk => by have := hk.1; omega) rfl hM.ext
  · have hj : j = kMany b := by have := of_decide_eq_false h; omega
    subst hj
    have hok : keptOk b := ⟨by rcases hfit with h | h <;> omega, h1⟩
    rw [show (keptL b).take (kMany b) = keptL b by rw [← keptL_len b, List.take_length]] at hM
    (conv => whnf)
    refine ⟨?_, hM.ext⟩
    rw [if_pos hok]
    exact ⟨S, rfl, hM⟩
end Go.Proofs.Ytkahpaipciooiad.Al

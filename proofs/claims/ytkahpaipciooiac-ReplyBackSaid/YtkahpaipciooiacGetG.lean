/- The contracts of num.Get and of its reference, at every size and place, over what is known of memory. -/
import Derived.Test.YtkahpaipciooiacNumG
namespace Go.Proofs.Ytkahpaipciooiac.Al
open Go Go.Al Go.Proofs Go.RowKit
set_option maxHeartbeats 8000000
set_option maxRecDepth 100000
set_option linter.unusedVariables false
set_option linter.unusedSimpArgs false
/-- What Get says of bytes. -/
def getN (l : List UInt8) (i m : Nat) : Int := if i + m ≤ l.length then getV ((l.drop i).take m) else 0
def getE (l : List UInt8) (i m : Nat) : Int := if i + m ≤ l.length then 0 else 3
theorem get_no {l : List UInt8} {i m : Nat} (h : ¬ i + m ≤ l.length) : Value.tuple #[.int .i64 0, .int .i64 3] = .tuple #[.int .i64 (getN l i m), .int .i64 (getE l i m)] := by
  unfold getN getE
  rw [if_neg h, if_neg h]
theorem get_yes {l : List UInt8} {i m : Nat} (h : i + m ≤ l.length) : Value.tuple #[.int .i64 (getV ((l.drop i).take m)), .int .i64 0] = .tuple #[.int .i64 (getN l i m), .int .i64 (getE l i m)] := by
  unfold getN getE
  rw [if_pos h, if_pos h]
theorem getG (m : Nat) (hm : Siz m) (l : List UInt8) (A : Option Addr) (c i : Nat) (F : Heap) (hr : RowAt F A (bytesOf l)) (hl : l.length ≤ 1000000) (hc : l.length ≤ c) (hi0 : i ≤ 100000000) :
    FnK Try.prog 34 #[.slice A l.length c, .int .i64 (i : Int), .int .i64 (m : Int)] F (fun v F' => v = .tuple #[.int .i64 (getN l i m), .int .i64 (getE l i m)] ∧ F' = F) := by
  have hsz := sizedG m hm
  have hm8 : 1 ≤ m ∧ m ≤ 8 := by rcases hm with rfl | rfl | rfl | rfl <;> decide
  clear hm
  (refine fn_walk tab_ok Try.func34 rfl rfl rfl rfl ?_; (conv => whnf))
  refine call_of (hsz F) ?_
  rintro v F1 ⟨rfl, rfl⟩
  (conv => whnf)
  refine cond_split (fun h => ?_) (fun h => ?_)
  case refine_2 =>
    have h : (!decide ((l.length : Int) < (m : Int))) = false := h
    have hlt : l.length < m := by simp at h; exact h
    (conv => whnf)
    exact ⟨get_no (by omega), rfl⟩
  have h : (!decide ((l.length : Int) < (m : Int))) = true := h
  have hlm : m ≤ l.length := by simp at h; exact h
  (conv => whnf)
  refine cond_split (fun h => ?_) (fun h => ?_)
  · have h : decide ((i : Int) > IntKind.i64.wrap ((l.length : Int) - (m : Int))) = true := h
    replace h := of_decide_eq_true h
    rw [IntKind.wrap_i64] at h
    (conv => whnf)
    exact ⟨get_no (by omega), rfl⟩
  have h : decide ((i : Int) > IntKind.i64.wrap ((l.length : Int) - (m : Int))) = false := h
  replace h := of_decide_eq_false h
  rw [IntKind.wrap_i64] at h
  have hi : i + m ≤ l.length := by omega
  have hyes := get_yes hi
  obtain ⟨ad, rfl⟩ := hr.some (by simp [bytesOf]; omega)
  have hcell : ∀ j x, j < m → ((l.drop i).take m)[j]? = some x → F1.cell? ((ad.add i).add (j * 1)) = some (.int .u8 (x.toNat : Int)) := by
    intro j x hj hx
    rw [add_add, Nat.mul_one]
    refine hr.cell ?_
    rw [List.getElem?_take, if_pos hj, List.getElem?_drop] at hx
    simp [bytesOf, hx]
  have hlen : ((l.drop i).take m).length = m := by simp; omega
  have hlt : ∀ j, j < m → gB (((l.drop i).take m).take j) < 72057594037927936 := by
    intro j hj
    have h := gB_lt (((l.drop i).take m).take j)
    rw [List.length_take, hlen, Nat.min_eq_left (by omega)] at h
    exact Nat.lt_of_lt_of_le h (Nat.pow_le_pow_right (by decide) (by omega) : 256 ^ j ≤ 256 ^ 7)
  (conv => whnf)
  have hhi : (IntKind.i64.wrap ((i : Int) + (m : Int))) = ((i + m : Nat) : Int) := by rw [IntKind.wrap_i64]; omega
  refine ⟨⟨by rw [hhi]; omega, by rw [hhi]; omega⟩, ?_⟩
  (conv => whnf)
  refine ⟨⟨by omega, by rw [hhi]; omega⟩, ?_⟩
  (conv => whnf)
  have hX : (if c = Int.toNat (i : Int) then some ad else (some ad).map (·.add (Int.toNat (i : Int) * 1))) = some (ad.add i) := by
    rw [Int.toNat_natCast, if_neg (by omega), Nat.mul_one]
    rfl
  have hN : (IntKind.i64.wrap ((i : Int) + (m : Int))).toNat - Int.toNat (i : Int) = m := by rw [hhi]; omega
  obtain ⟨cp, hcp⟩ : ∃ cp, c - Int.toNat (i : Int) = cp := ⟨_, rfl⟩
  refine loop_slots [8, 35, 36, 37] (fun k vs F2 => ∃ j : Nat, j + k = m ∧ vs = [.int .u64 (gB (((l.drop i).take m).take j) : Nat), .slice (some (ad.add i)) m cp, .int .i64 (m : Int), .int .i64 (j : Int)] ∧ F2 = F1) m ⟨0, by omega, ?_, rfl⟩ ?_
  · show [Value.int .u64 0, Value.slice (if c = Int.toNat (i : Int) then some ad else (some ad).map (·.add (Int.toNat (i : Int) * 1))) ((IntKind.i64.wrap ((i : Int) + (m : Int))).toNat - Int.toNat (i : Int)) (c - Int.toNat (i : Int)), Value.int .i64 (((IntKind.i64.wrap ((i : Int) + (m : Int))).toNat - Int.toNat (i : Int) : Nat) : Int), Value.int .i64 0] = _
    rw [hX, hN, hcp]
    rfl
  rintro k vs F2 ρ ⟨j, hjk, rfl, rfl⟩
  (conv => whnf)
  refine cond_split (fun h => ?_) (fun h => ?_)
  · have hj : j < m := by have := of_decide_eq_true h; omega
    obtain ⟨x, hx⟩ : ∃ x, ((l.drop i).take m)[j]? = some x := ⟨_, List.getElem?_eq_getElem (by rw [hlen]; exact hj)⟩
    have hs := gB_step ((l.drop i).take m) j x hx
    have hb := or_u (gB (((l.drop i).take m).take j)) x (hlt j hj)
    (conv => whnf)
    refine ⟨⟨by omega, by omega⟩, ?_⟩
    (conv => whnf)
    refine load_step (v := .int .u8 (x.toNat : Int)) ?_ ?_
    · show F2.cell? ((ad.add i).add (Int.toNat (j : Int) * 1)) = _
      rw [Int.toNat_natCast]
      exact hcell j x hj hx
    (conv => whnf)
    refine ⟨by decide, ?_⟩
    (conv => whnf)
    refine ⟨k - 1, by omega, j + 1, by omega, ?_, rfl⟩
    have hw : IntKind.i64.wrap ((j : Int) + 1) = ((j + 1 : Nat) : Int) := by rw [IntKind.wrap_i64]; omega
    rw [← hw, hs, ← hb]
    rfl
  · have hj : j = m := by have := of_decide_eq_false h; omega
    subst hj
    rw [show ((l.drop i).take j).take j = (l.drop i).take j by rw [List.take_take, Nat.min_self]]
    unfold getV at hyes
    generalize gB ((l.drop i).take j) = m at hyes ⊢
    (conv => whnf)
    exact ⟨hyes, rfl⟩
theorem rgetG (m : Nat) (hm : Siz m) (l : List UInt8) (A : Option Addr) (c i : Nat) (F : Heap) (hr : RowAt F A (bytesOf l)) (hl : l.length ≤ 1000000) (hc : l.length ≤ c) (hi0 : i ≤ 100000000) :
    FnK Try.prog 35 #[.slice A l.length c, .int .i64 (i : Int), .int .i64 (m : Int)] F (fun v F' => v = .tuple #[.int .i64 (getN l i m), .int .i64 (getE l i m)] ∧ F' = F) := by
  have hsz := rsizedG m hm
  have hm8 : 1 ≤ m ∧ m ≤ 8 := by rcases hm with rfl | rfl | rfl | rfl <;> decide
  clear hm
  (refine fn_walk tab_ok Try.func35 rfl rfl rfl rfl ?_; (conv => whnf))
  refine call_of (hsz F) ?_
  rintro v F1 ⟨rfl, rfl⟩
  (conv => whnf)
  refine cond_split (fun h => ?_) (fun h => ?_)
  · have h : decide ((i : Int) > IntKind.i64.wrap ((l.length : Int) - (m : Int))) = true := h
    replace h := of_decide_eq_true h
    rw [IntKind.wrap_i64] at h
    (conv => whnf)
    exact ⟨get_no (by omega), rfl⟩
  have h : decide ((i : Int) > IntKind.i64.wrap ((l.length : Int) - (m : Int))) = false := h
  replace h := of_decide_eq_false h
  rw [IntKind.wrap_i64] at h
  have hi : i + m ≤ l.length := by omega
  have hyes := get_yes hi
  obtain ⟨ad, rfl⟩ := hr.some (by simp [bytesOf]; omega)
  have hcell : ∀ j x, j < m → ((l.drop i).take m)[j]? = some x → F1.cell? (ad.add ((i + j) * 1)) = some (.int .u8 (x.toNat : Int)) := by
    intro j x hj hx
    rw [Nat.mul_one]
    refine hr.cell ?_
    rw [List.getElem?_take, if_pos hj, List.getElem?_drop] at hx
    simp [bytesOf, hx]
  have hlen : ((l.drop i).take m).length = m := by simp; omega
  have hlt : ∀ j, j < m → gB (((l.drop i).take m).take j) < 72057594037927936 := by
    intro j hj
    have h := gB_lt (((l.drop i).take m).take j)
    rw [List.length_take, hlen, Nat.min_eq_left (by omega)] at h
    exact Nat.lt_of_lt_of_le h (Nat.pow_le_pow_right (by decide) (by omega) : 256 ^ j ≤ 256 ^ 7)
  have hgv : ∀ j, j < m → getV (((l.drop i).take m).take j) = ((gB (((l.drop i).take m).take j) : Nat) : Int) := by
    intro j hj
    have := hlt j hj
    unfold getV
    rw [IntKind.wrap_i64]
    omega
  (conv => whnf)
  refine loop_slots [0, 1, 2, 8, 9] (fun k vs F2 => ∃ j : Nat, j + k = m ∧ vs = [.slice (some ad) l.length c, .int .i64 (i : Int), .int .i64 (m : Int), .int .i64 (getV (((l.drop i).take m).take j)), .int .i64 (j : Int)] ∧ F2 = F1) m ⟨0, by omega, rfl, rfl⟩ ?_
  rintro k vs F2 ρ ⟨j, hjk, rfl, rfl⟩
  have hgj := hgv j
  generalize hgg : getV (((l.drop i).take m).take j) = gg at hgj
  (conv => whnf)
  refine cond_split (fun h => ?_) (fun h => ?_)
  · have hj : j < m := by have := of_decide_eq_true h; omega
    obtain ⟨x, hx⟩ : ∃ x, ((l.drop i).take m)[j]? = some x := ⟨_, List.getElem?_eq_getElem (by rw [hlen]; exact hj)⟩
    have hs := gB_step ((l.drop i).take m) j x hx
    have hb := or_i (gB (((l.drop i).take m).take j)) x (hlt j hj)
    rw [← hgj hj] at hb
    have hij : IntKind.i64.wrap ((i : Int) + (j : Int)) = ((i + j : Nat) : Int) := by rw [IntKind.wrap_i64]; omega
    (conv => whnf)
    refine ⟨by decide, ?_⟩
    (conv => whnf)
    refine ⟨⟨by rw [hij]; omega, by rw [hij]; omega⟩, ?_⟩
    (conv => whnf)
    refine load_step (v := .int .u8 (x.toNat : Int)) ?_ ?_
    · show F2.cell? (ad.add (Int.toNat (IntKind.i64.wrap ((i : Int) + (j : Int))) * 1)) = _
      rw [hij, Int.toNat_natCast]
      exact hcell j x hj hx
    (conv => whnf)
    refine ⟨k - 1, by omega, j + 1, by omega, ?_, rfl⟩
    have hw : IntKind.i64.wrap ((j : Int) + 1) = ((j + 1 : Nat) : Int) := by rw [IntKind.wrap_i64]; omega
    have hv : getV (((l.drop i).take m).take (j + 1)) = IntKind.i64.wrap ((gB (((l.drop i).take m).take j) * 256 + x.toNat : Nat) : Int) := by unfold getV; rw [hs]
    rw [← hw, hv, ← hb]
    rfl
  · have hj : j = m := by have := of_decide_eq_false h; omega
    subst hj
    rw [show ((l.drop i).take j).take j = (l.drop i).take j by rw [List.take_take, Nat.min_self]] at hgg
    rw [hgg] at hyes
    (conv => whnf)
    exact ⟨hyes, rfl⟩
end Go.Proofs.Ytkahpaipciooiac.Al

/- The contracts of num.Right, num.Put, num.Get and of their references, at every size, over what is known of memory. -/
import Derived.Test.YtkahpaipciooiacAlMake
import Derived.Test.YtkahpaipciooiacAlNum
import Derived.Test.YtkahpaipciooiacAlTab
namespace Go.Proofs.Ytkahpaipciooiac.Al
open Go Go.Al Go.Proofs Go.RowKit
set_option maxHeartbeats 8000000
set_option maxRecDepth 100000
set_option linter.unusedVariables false
set_option linter.unusedSimpArgs false
theorem sizedG (m : Nat) (hm : Siz m) (F : Heap) : FnK Try.prog 55 #[.int .i64 m] F (fun v F' => v = .bool true ∧ F' = F) := by
  rcases hm with rfl | rfl | rfl | rfl
  all_goals
    (refine fn_walk tab_ok Try.func55 rfl rfl rfl rfl ?_; (conv => whnf))
    exact ⟨rfl, rfl⟩
theorem rightG (m : Nat) (hm : Siz m) (n : Int) (F : Heap) : FnK Try.prog 57 #[.int .i64 n, .int .i64 m] F (fun v F' => v = .bool (inM m n) ∧ F' = F) := by
  have hs := sizedG m hm
  unfold inM
  rcases hm with rfl | rfl | rfl | rfl
  case inr.inr.inr =>
    (refine fn_walk tab_ok Try.func57 rfl rfl rfl rfl ?_; (conv => whnf))
    exact ⟨rfl, rfl⟩
  all_goals
    (refine fn_walk tab_ok Try.func57 rfl rfl rfl rfl ?_; (conv => whnf))
    refine call_of (hs F) ?_
    rintro v _ ⟨rfl, rfl⟩
    (conv => whnf)
    refine cond_split (fun h => ?_) (fun h => ?_)
    · (conv => whnf)
      refine ⟨by decide, ?_⟩
      (conv => whnf)
      replace h : decide (n ≥ 0) = true := h
      have h0 : 0 ≤ n := of_decide_eq_true h
      refine ⟨congrArg Value.bool ?_, rfl⟩
      show (n.fdiv (2 ^ min (IntKind.i64.wrap (8 * _)).toNat IntKind.i64.bits) == 0) = (decide (0 ≤ n) && decide _)
      rw [Int.fdiv_eq_ediv_of_nonneg n (Int.le_of_lt (Int.pow_pos (by decide))), decide_eq_true h0, Bool.true_and]
      rw [Bool.eq_iff_iff, beq_iff_eq, decide_eq_true_iff]
      simp only [Nat.reducePow]
      first
        | (rw [show ((2 : Int) ^ min (IntKind.i64.wrap (8 * ((1 : Nat) : Int))).toNat IntKind.i64.bits) = 256 by decide]; omega)
        | (rw [show ((2 : Int) ^ min (IntKind.i64.wrap (8 * ((2 : Nat) : Int))).toNat IntKind.i64.bits) = 65536 by decide]; omega)
        | (rw [show ((2 : Int) ^ min (IntKind.i64.wrap (8 * ((4 : Nat) : Int))).toNat IntKind.i64.bits) = 4294967296 by decide]; omega)
    · (conv => whnf)
      replace h : decide (n ≥ 0) = false := h
      exact ⟨by rw [show decide (0 ≤ n) = false from h]; rfl, rfl⟩
theorem rsizedG (m : Nat) (hm : Siz m) (F : Heap) : FnK Try.prog 56 #[.int .i64 m] F (fun v F' => v = .bool true ∧ F' = F) := by
  rcases hm with rfl | rfl | rfl | rfl
  all_goals
    (refine fn_walk tab_ok Try.func56 rfl rfl rfl rfl ?_; (conv => whnf))
    exact ⟨rfl, rfl⟩
theorem rpowG (m : Nat) (hm : m ≤ 4) (F : Heap) : FnK Try.prog 63 #[.int .i64 m] F (fun v F' => v = .int .i64 ((256 ^ m : Nat) : Int) ∧ F' = F) := by
  have hw : ∀ j : Nat, j < 4 → IntKind.i64.wrap (((256 ^ j : Nat) : Int) * 256) = ((256 ^ (j + 1) : Nat) : Int) := by
    intro j hj
    have h : j = 0 ∨ j = 1 ∨ j = 2 ∨ j = 3 := by omega
    rcases h with rfl | rfl | rfl | rfl <;> decide
  (refine fn_walk tab_ok Try.func63 rfl rfl rfl rfl ?_; (conv => whnf))
  refine loop_slots [0, 3, 4] (fun k vs F' => ∃ j : Nat, j + k = m ∧ vs = [.int .i64 m, .int .i64 ((256 ^ j : Nat) : Int), .int .i64 (j : Int)] ∧ F' = F) m ⟨0, by omega, rfl, rfl⟩ ?_
  rintro k vs F1 ρ ⟨j, hjk, rfl, rfl⟩
  generalize hp : ((256 ^ j : Nat) : Int) = p
  (conv => whnf)
  refine cond_split (fun h => ?_) (fun h => ?_)
  · have hj : j < m := by have := of_decide_eq_true h; omega
    (conv => whnf)
    refine ⟨k - 1, by omega, j + 1, by omega, ?_, rfl⟩
    have h1 : IntKind.i64.wrap ((j : Int) + 1) = ((j + 1 : Nat) : Int) := by rw [IntKind.wrap_i64]; omega
    rw [← h1, ← hw j (by omega), hp]
    rfl
  · have hj : j = m := by have := of_decide_eq_false h; omega
    subst hj
    (conv => whnf)
    exact ⟨congrArg (Value.int .i64) hp.symm, rfl⟩
theorem rrightG (m : Nat) (hm : Siz m) (n : Int) (F : Heap) : FnK Try.prog 59 #[.int .i64 n, .int .i64 m] F (fun v F' => v = .bool (inM m n) ∧ F' = F) := by
  have hs := rsizedG m hm
  have hp : m ≤ 4 → ∀ F, _ := fun h F => rpowG m h F
  unfold inM
  rcases hm with rfl | rfl | rfl | rfl
  case inr.inr.inr =>
    (refine fn_walk tab_ok Try.func59 rfl rfl rfl rfl ?_; (conv => whnf))
    exact ⟨rfl, rfl⟩
  all_goals
    (refine fn_walk tab_ok Try.func59 rfl rfl rfl rfl ?_; (conv => whnf))
    refine call_of (hs F) ?_
    rintro v _ ⟨rfl, rfl⟩
    (conv => whnf)
    refine cond_split (fun h => ?_) (fun h => ?_)
    · (conv => whnf)
      refine call_of (hp (by decide) _) ?_
      rintro v _ ⟨rfl, rfl⟩
      (conv => whnf)
      replace h : decide (n ≥ 0) = true := h
      exact ⟨by rw [show decide (0 ≤ n) = true from h]; rfl, rfl⟩
    · (conv => whnf)
      replace h : decide (n ≥ 0) = false := h
      exact ⟨by rw [show decide (0 ≤ n) = false from h]; rfl, rfl⟩
theorem hone_bytes (l : List UInt8) : ∀ v ∈ bytesOf l, v.oneCell' = true := fun v hv => by
  obtain ⟨x, _, rfl⟩ := List.mem_map.1 hv
  rfl
theorem bytes_len (l : List UInt8) : (bytesOf l).length = l.length := by simp [bytesOf]
theorem bytes_app (l k : List UInt8) : bytesOf (l ++ k) = bytesOf l ++ bytesOf k := by simp [bytesOf]
theorem putG (m : Nat) (hm : Siz m) (l : List UInt8) (A : Option Addr) (c : Nat) (n : Int) (F : Heap) (hr : RowAt F A (bytesOf l)) (hl : l.length ≤ 1000000) :
    FnK Try.prog 37 #[.slice A l.length c, .int .i64 n, .int .i64 m] F (fun v F' => Mine F F' v 5 1 (putM m l n).length (bytesOf (putM m l n))) := by
  unfold putM
  have hq := rightG m hm n
  have hm8 : 1 ≤ m ∧ m ≤ 8 := by rcases hm with rfl | rfl | rfl | rfl <;> decide
  clear hm
  generalize inM m n = z at hq
  (refine fn_walk tab_ok Try.func37 rfl rfl rfl rfl ?_; (conv => whnf))
  refine make_one tab_ok (l.length) (l.length + 8) rfl rfl (by show Value.int _ _ = _; rw [show IntKind.i64.wrap ((l.length : Int) + 8) = ((l.length + 8 : Nat) : Int) by rw [IntKind.wrap_i64]; omega]) rfl rfl ⟨rfl, by decide, _, rfl, rfl⟩ (by omega) (by show (l.length + 8) * 1 ≤ _; omega) fun g hg => ?_
  (conv => whnf)
  refine copy_all tab_ok rfl rfl rfl rfl rfl (m := l.length) (y := .slice A l.length c) (ys := bytesOf l) ⟨by simp [bytesOf], .inl ⟨_, _, rfl, hr.mono (Ext.new hg _)⟩⟩ (Nat.le_refl _) (Heap.put_same _ _ _) (.inl (Nat.le_refl 0)) (by simp) (hone_bytes l) ?_
  rw [Heap.put_put]
  have hm : Mine F (F.put g (.cells (putL (List.replicate (l.length + 8) (Value.int .u8 0)).toArray.toList 0 (bytesOf l)).toArray 5)) (.slice (some ⟨g, 0, none⟩) l.length (l.length + 8)) 5 1 l.length (bytesOf l) := by
    refine ⟨⟨by simp [bytesOf], .inr ⟨g, l.length + 8, _, rfl, Live.put _ _ _ _, by simp [length_putL], by omega, ?_⟩⟩, fun b hb => ?_, Ext.new hg _⟩
    · rw [List.toList_toArray, putL_eq _ _ _ (by simp [bytesOf]), List.take_zero, List.nil_append, List.take_left' (by simp [bytesOf])]
    · obtain rfl : g = b := Option.some.inj hb
      exact hg
  generalize F.put g _ = F1 at hm ⊢
  generalize (⟨g, 0, none⟩ : Addr) = ga at hm ⊢
  (conv => whnf)
  refine call_of (hq _) ?_
  rintro v _ ⟨rfl, rfl⟩
  cases z with
  | false =>
    (conv => whnf)
    exact hm
  | true =>
    have hsh : IntKind.i64.wrap (8 * IntKind.i64.wrap ((m : Int) - 1)) = 8 * (m : Int) - 8 - 8 * ((0 : Nat) : Int) := by
      rw [show IntKind.i64.wrap ((m : Int) - 1) = (m : Int) - 1 by rw [IntKind.wrap_i64]; omega, IntKind.wrap_i64]
      omega
    (conv => whnf)
    refine loop_slots [1, 7, 8] (fun k vs F' => ∃ (j : Nat) (s : Value), j + k = m ∧ vs = [.int .i64 n, s, .int .i64 (8 * (m : Int) - 8 - 8 * (j : Int))] ∧ Mine F F' s 5 1 (l.length + j) (bytesOf (l ++ (beM m n).take j))) m ⟨0, .slice (some ga) l.length (l.length + 8), by omega, by rw [← hsh]; rfl, by simpa using hm⟩ ?_
    rintro k vs F2 ρ ⟨j, s, hjk, rfl, hm⟩
    clear hq hsh
    have hd : IntKind.i64.wrap (8 * (m : Int) - 8 - 8 * (j : Int) - 8) = 8 * (m : Int) - 8 - 8 * ((j + 1 : Nat) : Int) := by
      rw [IntKind.wrap_i64]
      omega
    have hbu : j < m → IntKind.u8.wrap ((IntKind.u64.wrap n).fdiv (2 ^ min (8 * (m : Int) - 8 - 8 * (j : Int)).toNat 64)) = ((byteAt n (m - 1 - j)).toNat : Int) := fun h => byte_u n _ (m - 1 - j) (by omega) (by omega)
    have hge : decide (8 * (m : Int) - 8 - 8 * (j : Int) ≥ 0) = decide (j < m) := by
      rw [Bool.eq_iff_iff, decide_eq_true_iff, decide_eq_true_iff]
      omega
    generalize hsv : 8 * (m : Int) - 8 - 8 * (j : Int) = sv at hd hbu hge
    (conv => whnf)
    refine cond_split (fun h => ?_) (fun h => ?_)
    · have h : decide (sv ≥ 0) = true := h
      have hj : j < m := by rw [hge] at h; exact of_decide_eq_true h
      have hsv0 := of_decide_eq_true h
      have hbv := hbu hj
      clear hbu hge
      (conv => whnf)
      refine ⟨hsv0, ?_⟩
      (conv => whnf)
      refine new_step (.cells #[.int .u8 ((byteAt n (m - 1 - j)).toNat : Int)] 5) ?_ fun q hq' => ?_
      · exact congrArg (fun z => Obj.cells #[.int .u8 z] 5) hbv
      (conv => whnf)
      refine append_mine tab_ok rfl rfl rfl rfl rfl ⟨_, rfl, fun k h => by cases h⟩ ⟨_, rfl, rfl⟩ (by decide) (hm.mono (Ext.new hq' _)) (m := 1) (ys := [.int .u8 ((byteAt n (m - 1 - j)).toNat : Int)]) (y := .slice (some ⟨q, 0, none⟩) 1 1) ⟨rfl, .inl ⟨_, _, rfl, fun i u hi => ⟨_, rfl, ?_⟩⟩⟩ (fun u hu => by rw [List.mem_singleton.1 hu]; rfl) (by show 2 * (l.length + j + 1) * 1 ≤ _; omega) fun s' F3 h1 h2 => ?_
      · rw [add_plain, Heap.cell_at (Heap.put_same _ _ _)]
        cases i with
        | zero => simpa using hi
        | succ i => simp at hi
      (conv => whnf)
      refine ⟨k - 1, by omega, j + 1, s', by omega, ?_, ?_⟩
      · rw [← hd]; rfl
      · rw [beM_take hj, ← List.append_assoc, bytes_app]
        exact h1
    · have h : decide (sv ≥ 0) = false := h
      have hj : j = m := by rw [hge] at h; have := of_decide_eq_false h; omega
      subst hj
      have hm' : Mine F F2 s 5 1 (l ++ beM j n).length (bytesOf (l ++ beM j n)) := by
        rw [List.length_append, beM_len]
        rw [List.take_of_length_le (by rw [beM_len]; exact Nat.le_refl _)] at hm
        exact hm
      (conv => whnf)
      exact hm'
theorem rputG (m : Nat) (hm : Siz m) (l : List UInt8) (A : Option Addr) (c : Nat) (n : Int) (F : Heap) (hr : RowAt F A (bytesOf l)) (hl : l.length ≤ 1000000) :
    FnK Try.prog 39 #[.slice A l.length c, .int .i64 n, .int .i64 m] F (fun v F' => Mine F F' v 5 1 (putM m l n).length (bytesOf (putM m l n))) := by
  unfold putM
  have hq := rrightG m hm n
  have hm8 : 1 ≤ m ∧ m ≤ 8 := by rcases hm with rfl | rfl | rfl | rfl <;> decide
  clear hm
  generalize inM m n = z at hq
  (refine fn_walk tab_ok Try.func39 rfl rfl rfl rfl ?_; (conv => whnf))
  refine append_mine tab_ok rfl rfl rfl rfl rfl ⟨_, rfl, fun k h => by cases h⟩ ⟨_, rfl, rfl⟩ (by decide) (Mine.nil F F 5 1 (Ext.refl F)) (m := l.length) (ys := bytesOf l) (y := .slice A l.length c) ⟨by simp [bytesOf], .inl ⟨_, _, rfl, hr⟩⟩ (hone_bytes l) (by show 2 * (0 + l.length) * 1 ≤ _; omega) fun s F1 hm _ => ?_
  rw [Nat.zero_add, List.nil_append] at hm
  (conv => whnf)
  refine call_of (hq _) ?_
  rintro v _ ⟨rfl, rfl⟩
  cases z with
  | false =>
    (conv => whnf)
    exact hm
  | true =>
    have hsh : IntKind.i64.wrap ((m : Int) - 1) = (m : Int) - 1 - ((0 : Nat) : Int) := by
      rw [IntKind.wrap_i64]
      omega
    (conv => whnf)
    refine loop_slots [1, 7, 8] (fun k vs F' => ∃ (j : Nat) (s : Value), j + k = m ∧ vs = [.int .i64 n, s, .int .i64 ((m : Int) - 1 - (j : Int))] ∧ Mine F F' s 5 1 (l.length + j) (bytesOf (l ++ (beM m n).take j))) m ⟨0, s, by omega, by rw [← hsh]; rfl, by simpa using hm⟩ ?_
    rintro k vs F2 ρ ⟨j, s, hjk, rfl, hm⟩
    clear hq hsh
    have hd : IntKind.i64.wrap ((m : Int) - 1 - (j : Int) - 1) = (m : Int) - 1 - ((j + 1 : Nat) : Int) := by
      rw [IntKind.wrap_i64]
      omega
    have h8 : j < m → IntKind.i64.wrap (8 * ((m : Int) - 1 - (j : Int))) = 8 * ((m - 1 - j : Nat) : Int) := fun h => by
      rw [IntKind.wrap_i64]
      omega
    have hge : decide ((m : Int) - 1 - (j : Int) ≥ 0) = decide (j < m) := by
      rw [Bool.eq_iff_iff, decide_eq_true_iff, decide_eq_true_iff]
      omega
    generalize hsv : (m : Int) - 1 - (j : Int) = sv at hd h8 hge
    have hbu : j < m → IntKind.u8.wrap (n.fdiv (2 ^ min (IntKind.i64.wrap (8 * sv)).toNat 64)) = ((byteAt n (m - 1 - j)).toNat : Int) := fun h => byte_i n _ (m - 1 - j) (h8 h) (by omega)
    (conv => whnf)
    refine cond_split (fun h => ?_) (fun h => ?_)
    · have h : decide (sv ≥ 0) = true := h
      have hj : j < m := by rw [hge] at h; exact of_decide_eq_true h
      have hsv0 : 0 ≤ IntKind.i64.wrap (8 * sv) := by rw [h8 hj]; omega
      have hbv := hbu hj
      clear hbu hge
      (conv => whnf)
      refine ⟨hsv0, ?_⟩
      (conv => whnf)
      refine new_step (.cells #[.int .u8 ((byteAt n (m - 1 - j)).toNat : Int)] 5) ?_ fun q hq' => ?_
      · exact congrArg (fun z => Obj.cells #[.int .u8 z] 5) hbv
      (conv => whnf)
      refine append_mine tab_ok rfl rfl rfl rfl rfl ⟨_, rfl, fun k h => by cases h⟩ ⟨_, rfl, rfl⟩ (by decide) (hm.mono (Ext.new hq' _)) (m := 1) (ys := [.int .u8 ((byteAt n (m - 1 - j)).toNat : Int)]) (y := .slice (some ⟨q, 0, none⟩) 1 1) ⟨rfl, .inl ⟨_, _, rfl, fun i u hi => ⟨_, rfl, ?_⟩⟩⟩ (fun u hu => by rw [List.mem_singleton.1 hu]; rfl) (by show 2 * (l.length + j + 1) * 1 ≤ _; omega) fun s' F3 h1 h2 => ?_
      · rw [add_plain, Heap.cell_at (Heap.put_same _ _ _)]
        cases i with
        | zero => simpa using hi
        | succ i => simp at hi
      (conv => whnf)
      refine ⟨k - 1, by omega, j + 1, s', by omega, ?_, ?_⟩
      · rw [← hd]; rfl
      · rw [beM_take hj, ← List.append_assoc, bytes_app]
        exact h1
    · have h : decide (sv ≥ 0) = false := h
      have hj : j = m := by rw [hge] at h; have := of_decide_eq_false h; omega
      subst hj
      have hm' : Mine F F2 s 5 1 (l ++ beM j n).length (bytesOf (l ++ beM j n)) := by
        rw [List.length_append, beM_len]
        rw [List.take_of_length_le (by rw [beM_len]; exact Nat.le_refl _)] at hm
        exact hm
      (conv => whnf)
      exact hm'
end Go.Proofs.Ytkahpaipciooiac.Al

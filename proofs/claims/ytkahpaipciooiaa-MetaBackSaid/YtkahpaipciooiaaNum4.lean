/- The contracts of num.Right, num.Put, num.Get and of their references at the size of four bytes, over what is known of memory. -/
import Derived.Test.YtkahpaipciooiaaAlMake
import Derived.Test.YtkahpaipciooiaaAlTab
namespace Go.Proofs.Ytkahpaipciooiaa.Al
open Go Go.Al Go.Proofs Go.RowKit
set_option maxHeartbeats 8000000
set_option maxRecDepth 100000
set_option linter.unusedVariables false
set_option linter.unusedSimpArgs false
def bytesOf (l : List UInt8) : List Value := l.map fun x => .int .u8 x.toNat
def in4 (n : Int) : Bool := decide (0 ≤ n) && decide (n < 4294967296)
theorem sized4 (F : Heap) : FnK Try.prog 27 #[.int .i64 4] F (fun v F' => v = .bool true ∧ F' = F) := by
  (refine fn_walk tab_ok Try.func27 rfl rfl rfl rfl ?_; (conv => whnf))
  exact ⟨rfl, rfl⟩
theorem right4 (n : Int) (F : Heap) : FnK Try.prog 30 #[.int .i64 n, .int .i64 4] F (fun v F' => v = .bool (in4 n) ∧ F' = F) := by
  unfold in4
  (refine fn_walk tab_ok Try.func30 rfl rfl rfl rfl ?_; (conv => whnf))
  refine call_of (sized4 F) ?_
  rintro v _ ⟨rfl, rfl⟩
  (conv => whnf)
  refine cond_split (fun h => ?_) (fun h => ?_)
  · (conv => whnf)
    refine ⟨by decide, ?_⟩
    (conv => whnf)
    replace h : decide (n ≥ 0) = true := h
    have h0 : 0 ≤ n := of_decide_eq_true h
    refine ⟨congrArg Value.bool ?_, rfl⟩
    show (n.fdiv (2 ^ min (IntKind.i64.wrap (8 * 4)).toNat IntKind.i64.bits) == 0) = _
    rw [show min (IntKind.i64.wrap (8 * 4)).toNat IntKind.i64.bits = 32 by decide, Int.fdiv_eq_ediv_of_nonneg n (by decide), decide_eq_true h0, Bool.true_and]
    rw [Bool.eq_iff_iff, beq_iff_eq, decide_eq_true_iff]
    omega
  · (conv => whnf)
    replace h : decide (n ≥ 0) = false := h
    exact ⟨by rw [show decide (0 ≤ n) = false from h]; rfl, rfl⟩
theorem rsized4 (F : Heap) : FnK Try.prog 22 #[.int .i64 4] F (fun v F' => v = .bool true ∧ F' = F) := by
  (refine fn_walk tab_ok Try.func22 rfl rfl rfl rfl ?_; (conv => whnf))
  exact ⟨rfl, rfl⟩
theorem rpow4 (F : Heap) : FnK Try.prog 31 #[.int .i64 4] F (fun v F' => v = .int .i64 4294967296 ∧ F' = F) := by
  (refine fn_walk tab_ok Try.func31 rfl rfl rfl rfl ?_; (conv => whnf))
  refine loop_slots [0, 3, 4] (fun k vs F' => ∃ j : Nat, j + k = 4 ∧ vs = [.int .i64 4, .int .i64 ((256 ^ j : Nat) : Int), .int .i64 (j : Int)] ∧ F' = F) 4 ⟨0, rfl, rfl, rfl⟩ ?_
  rintro k vs F1 ρ ⟨j, hjk, rfl, rfl⟩
  have hj : j = 0 ∨ j = 1 ∨ j = 2 ∨ j = 3 ∨ j = 4 := by omega
  rcases hj with rfl | rfl | rfl | rfl | rfl
  · (conv => whnf)
    exact ⟨3, by omega, 1, rfl, rfl, rfl⟩
  · (conv => whnf)
    exact ⟨2, by omega, 2, rfl, rfl, rfl⟩
  · (conv => whnf)
    exact ⟨1, by omega, 3, rfl, rfl, rfl⟩
  · (conv => whnf)
    exact ⟨0, by omega, 4, rfl, rfl, rfl⟩
  · (conv => whnf)
    exact ⟨rfl, rfl⟩
theorem rright4 (n : Int) (F : Heap) : FnK Try.prog 26 #[.int .i64 n, .int .i64 4] F (fun v F' => v = .bool (in4 n) ∧ F' = F) := by
  unfold in4
  (refine fn_walk tab_ok Try.func26 rfl rfl rfl rfl ?_; (conv => whnf))
  refine call_of (rsized4 F) ?_
  rintro v _ ⟨rfl, rfl⟩
  (conv => whnf)
  refine cond_split (fun h => ?_) (fun h => ?_)
  · (conv => whnf)
    refine call_of (rpow4 _) ?_
    rintro v _ ⟨rfl, rfl⟩
    (conv => whnf)
    replace h : decide (n ≥ 0) = true := h
    exact ⟨by rw [show decide (0 ≤ n) = true from h]; rfl, rfl⟩
  · (conv => whnf)
    replace h : decide (n ≥ 0) = false := h
    exact ⟨by rw [show decide (0 ≤ n) = false from h]; rfl, rfl⟩
theorem byte_val (n : Int) (n0 : 0 ≤ n) (n1 : n < 4294967296) (s : Nat) (hs : s < 64) : IntKind.u8.wrap ((IntKind.u64.wrap n).fdiv (2 ^ min s 64)) = ((UInt8.ofNat (n.toNat / 2 ^ s)).toNat : Int) := by
  have h1 : IntKind.u64.wrap n = n := by
    simp only [IntKind.wrap, IntKind.signed, IntKind.bits]
    simp
    omega
  rw [h1, Int.fdiv_eq_ediv_of_nonneg n (Int.pow_nonneg (by decide)), Nat.min_eq_left (by omega), UInt8.toNat_ofNat']
  simp only [IntKind.wrap, IntKind.signed, IntKind.bits]
  obtain ⟨m, rfl⟩ := Int.eq_ofNat_of_zero_le n0
  simp
/-- A number's four bytes. -/
def be4 (n : Nat) : List UInt8 := [UInt8.ofNat (n / 16777216), UInt8.ofNat (n / 65536), UInt8.ofNat (n / 256), UInt8.ofNat (n / 1)]
def put4 (l : List UInt8) (n : Int) : List UInt8 := bif in4 n then l ++ be4 n.toNat else l
theorem put (l : List UInt8) (A : Option Addr) (c : Nat) (n : Int) (F : Heap) (hr : RowAt F A (bytesOf l)) (hl : l.length ≤ 100000) : FnK Try.prog 24 #[.slice A l.length c, .int .i64 n, .int .i64 4] F (fun v F' => Mine F F' v 5 1 (put4 l n).length (bytesOf (put4 l n))) := by
  unfold put4
  have hq := right4 n
  have hin : in4 n = true → 0 ≤ n ∧ n < 4294967296 := by unfold in4; simp
  generalize in4 n = z at hq hin
  (refine fn_walk tab_ok Try.func24 rfl rfl rfl rfl ?_; (conv => whnf))
  refine make_one tab_ok (l.length) (l.length + 8) rfl rfl (by show Value.int _ _ = _; rw [show IntKind.i64.wrap ((l.length : Int) + 8) = ((l.length + 8 : Nat) : Int) by rw [IntKind.wrap_i64]; omega]) rfl rfl ⟨rfl, by decide, _, rfl, rfl⟩ (by omega) (by show (l.length + 8) * 1 ≤ _; omega) fun g hg => ?_
  (conv => whnf)
  have hone : ∀ v ∈ bytesOf l, v.oneCell' = true := fun v hv => by
    obtain ⟨x, _, rfl⟩ := List.mem_map.1 hv
    rfl
  refine copy_all tab_ok rfl rfl rfl rfl rfl (m := l.length) (y := .slice A l.length c) (ys := bytesOf l) ⟨by simp [bytesOf], .inl ⟨_, _, rfl, hr.mono (Ext.new hg _)⟩⟩ (Nat.le_refl _) (Heap.put_same _ _ _) (.inl (Nat.le_refl 0)) (by simp) hone ?_
  rw [Heap.put_put]
  have hm : Mine F (F.put g (.cells (putL (List.replicate (l.length + 8) (Value.int .u8 0)).toArray.toList 0 (bytesOf l)).toArray 5)) (.slice (some ⟨g, 0, none⟩) l.length (l.length + 8)) 5 1 l.length (bytesOf l) := by
    refine ⟨⟨by simp [bytesOf], .inr ⟨g, l.length + 8, _, rfl, Live.put _ _ _ _, by simp [length_putL], by omega, ?_⟩⟩, fun b hb => ?_, Ext.new hg _⟩
    · rw [List.toList_toArray, putL_eq _ _ _ (by simp [bytesOf]), List.take_zero, List.nil_append, List.take_left' (by simp [bytesOf])]
    · obtain rfl : g = b := Option.some.inj hb
      exact hg
  generalize F.put g _ = F1 at hm ⊢
  generalize (⟨g, 0, none⟩ : Addr) = ga at hm ⊢
  (conv => whnf)
  refine call_of (hq _) ?_
  rintro v _ ⟨rfl, rfl⟩
  cases z with
  | false =>
    (conv => whnf)
    exact hm
  | true =>
    obtain ⟨n0, n1⟩ := hin rfl
    (conv => whnf)
    refine loop_slots [1, 7, 8] (fun k vs F' => ∃ (j : Nat) (s : Value), j + k = 4 ∧ vs = [.int .i64 n, s, .int .i64 (24 - 8 * (j : Int))] ∧ Mine F F' s 5 1 (l.length + j) (bytesOf (l ++ (be4 n.toNat).take j))) 4 ⟨0, .slice (some ga) l.length (l.length + 8), rfl, rfl, by simpa using hm⟩ ?_
    rintro k vs F2 ρ ⟨j, s, hjk, rfl, hm⟩
    clear hq hin
    have hj : j = 0 ∨ j = 1 ∨ j = 2 ∨ j = 3 ∨ j = 4 := by omega
    rcases hj with rfl | rfl | rfl | rfl | rfl
    · (conv => whnf)
      refine ⟨by decide, ?_⟩
      (conv => whnf)
      refine new_step (.cells #[.int .u8 ((UInt8.ofNat (n.toNat / 16777216)).toNat : Int)] 5) ?_ fun q hq' => ?_
      · exact congrArg (fun z => Obj.cells #[.int .u8 z] 5) (byte_val n n0 n1 24 (by decide))
      (conv => whnf)
      refine append_mine tab_ok rfl rfl rfl rfl rfl ⟨_, rfl, fun k h => by cases h⟩ ⟨_, rfl, rfl⟩ (by decide) (hm.mono (Ext.new hq' _)) (m := 1) (ys := [.int .u8 ((UInt8.ofNat (n.toNat / 16777216)).toNat : Int)]) (y := .slice (some ⟨q, 0, none⟩) 1 1) ⟨rfl, .inl ⟨_, _, rfl, fun i u hi => ⟨_, rfl, ?_⟩⟩⟩ (fun u hu => by rw [List.mem_singleton.1 hu]; rfl) (by show 2 * (l.length + 0 + 1) * 1 ≤ _; omega) fun s' F3 h1 h2 => ?_
      · rw [add_plain, Heap.cell_at (Heap.put_same _ _ _)]
        cases i with
        | zero => simpa using hi
        | succ i => simp at hi
      (conv => whnf)
      refine ⟨3, by omega, 1, s', rfl, rfl, ?_⟩
      have := h1
      simpa [bytesOf, be4] using this
    · (conv => whnf)
      refine ⟨by decide, ?_⟩
      (conv => whnf)
      refine new_step (.cells #[.int .u8 ((UInt8.ofNat (n.toNat / 65536)).toNat : Int)] 5) ?_ fun q hq' => ?_
      · exact congrArg (fun z => Obj.cells #[.int .u8 z] 5) (byte_val n n0 n1 16 (by decide))
      (conv => whnf)
      refine append_mine tab_ok rfl rfl rfl rfl rfl ⟨_, rfl, fun k h => by cases h⟩ ⟨_, rfl, rfl⟩ (by decide) (hm.mono (Ext.new hq' _)) (m := 1) (ys := [.int .u8 ((UInt8.ofNat (n.toNat / 65536)).toNat : Int)]) (y := .slice (some ⟨q, 0, none⟩) 1 1) ⟨rfl, .inl ⟨_, _, rfl, fun i u hi => ⟨_, rfl, ?_⟩⟩⟩ (fun u hu => by rw [List.mem_singleton.1 hu]; rfl) (by show 2 * (l.length + 1 + 1) * 1 ≤ _; omega) fun s' F3 h1 h2 => ?_
      · rw [add_plain, Heap.cell_at (Heap.put_same _ _ _)]
        cases i with
        | zero => simpa using hi
        | succ i => simp at hi
      (conv => whnf)
      refine ⟨2, by omega, 2, s', rfl, rfl, ?_⟩
      have := h1
      simpa [bytesOf, be4] using this
    · (conv => whnf)
      refine ⟨by decide, ?_⟩
      (conv => whnf)
      refine new_step (.cells #[.int .u8 ((UInt8.ofNat (n.toNat / 256)).toNat : Int)] 5) ?_ fun q hq' => ?_
      · exact congrArg (fun z => Obj.cells #[.int .u8 z] 5) (byte_val n n0 n1 8 (by decide))
      (conv => whnf)
      refine append_mine tab_ok rfl rfl rfl rfl rfl ⟨_, rfl, fun k h => by cases h⟩ ⟨_, rfl, rfl⟩ (by decide) (hm.mono (Ext.new hq' _)) (m := 1) (ys := [.int .u8 ((UInt8.ofNat (n.toNat / 256)).toNat : Int)]) (y := .slice (some ⟨q, 0, none⟩) 1 1) ⟨rfl, .inl ⟨_, _, rfl, fun i u hi => ⟨_, rfl, ?_⟩⟩⟩ (fun u hu => by rw [List.mem_singleton.1 hu]; rfl) (by show 2 * (l.length + 2 + 1) * 1 ≤ _; omega) fun s' F3 h1 h2 => ?_
      · rw [add_plain, Heap.cell_at (Heap.put_same _ _ _)]
        cases i with
        | zero => simpa using hi
        | succ i => simp at hi
      (conv => whnf)
      refine ⟨1, by omega, 3, s', rfl, rfl, ?_⟩
      have := h1
      simpa [bytesOf, be4] using this
    · (conv => whnf)
      refine ⟨by decide, ?_⟩
      (conv => whnf)
      refine new_step (.cells #[.int .u8 ((UInt8.ofNat (n.toNat / 1)).toNat : Int)] 5) ?_ fun q hq' => ?_
      · exact congrArg (fun z => Obj.cells #[.int .u8 z] 5) (byte_val n n0 n1 0 (by decide))
      (conv => whnf)
      refine append_mine tab_ok rfl rfl rfl rfl rfl ⟨_, rfl, fun k h => by cases h⟩ ⟨_, rfl, rfl⟩ (by decide) (hm.mono (Ext.new hq' _)) (m := 1) (ys := [.int .u8 ((UInt8.ofNat (n.toNat / 1)).toNat : Int)]) (y := .slice (some ⟨q, 0, none⟩) 1 1) ⟨rfl, .inl ⟨_, _, rfl, fun i u hi => ⟨_, rfl, ?_⟩⟩⟩ (fun u hu => by rw [List.mem_singleton.1 hu]; rfl) (by show 2 * (l.length + 3 + 1) * 1 ≤ _; omega) fun s' F3 h1 h2 => ?_
      · rw [add_plain, Heap.cell_at (Heap.put_same _ _ _)]
        cases i with
        | zero => simpa using hi
        | succ i => simp at hi
      (conv => whnf)
      refine ⟨0, by omega, 4, s', rfl, rfl, ?_⟩
      have := h1
      simpa [bytesOf, be4] using this
    · have hm' : Mine F F2 s 5 1 (l ++ be4 n.toNat).length (bytesOf (l ++ be4 n.toNat)) := by rw [List.length_append]; exact hm
      (conv => whnf)
      exact hm'
theorem byte_val' (n : Int) (n0 : 0 ≤ n) (s : Nat) (hs : s < 64) : IntKind.u8.wrap (n.fdiv (2 ^ min s 64)) = ((UInt8.ofNat (n.toNat / 2 ^ s)).toNat : Int) := by
  rw [Int.fdiv_eq_ediv_of_nonneg n (Int.pow_nonneg (by decide)), Nat.min_eq_left (by omega), UInt8.toNat_ofNat']
  simp only [IntKind.wrap, IntKind.signed, IntKind.bits]
  obtain ⟨m, rfl⟩ := Int.eq_ofNat_of_zero_le n0
  simp
theorem rput (l : List UInt8) (A : Option Addr) (c : Nat) (n : Int) (F : Heap) (hr : RowAt F A (bytesOf l)) (hl : l.length ≤ 100000) : FnK Try.prog 19 #[.slice A l.length c, .int .i64 n, .int .i64 4] F (fun v F' => Mine F F' v 5 1 (put4 l n).length (bytesOf (put4 l n))) := by
  unfold put4
  have hq := rright4 n
  have hin : in4 n = true → 0 ≤ n ∧ n < 4294967296 := by unfold in4; simp
  generalize in4 n = z at hq hin
  have hone : ∀ v ∈ bytesOf l, v.oneCell' = true := fun v hv => by
    obtain ⟨x, _, rfl⟩ := List.mem_map.1 hv
    rfl
  (refine fn_walk tab_ok Try.func19 rfl rfl rfl rfl ?_; (conv => whnf))
  refine append_mine tab_ok rfl rfl rfl rfl rfl ⟨_, rfl, fun k h => by cases h⟩ ⟨_, rfl, rfl⟩ (by decide) (Mine.nil F F 5 1 (Ext.refl F)) (m := l.length) (ys := bytesOf l) (y := .slice A l.length c) ⟨by simp [bytesOf], .inl ⟨_, _, rfl, hr⟩⟩ hone (by show 2 * (0 + l.length) * 1 ≤ _; omega) fun s F1 hm _ => ?_
  rw [Nat.zero_add, List.nil_append] at hm
  (conv => whnf)
  refine call_of (hq _) ?_
  rintro v _ ⟨rfl, rfl⟩
  cases z with
  | false =>
    (conv => whnf)
    exact hm
  | true =>
    obtain ⟨n0, n1⟩ := hin rfl
    (conv => whnf)
    refine loop_slots [1, 7, 8] (fun k vs F' => ∃ (j : Nat) (s : Value), j + k = 4 ∧ vs = [.int .i64 n, s, .int .i64 (3 - (j : Int))] ∧ Mine F F' s 5 1 (l.length + j) (bytesOf (l ++ (be4 n.toNat).take j))) 4 ⟨0, s, rfl, rfl, by simpa using hm⟩ ?_
    rintro k vs F2 ρ ⟨j, s, hjk, rfl, hm⟩
    clear hq hin
    have hj : j = 0 ∨ j = 1 ∨ j = 2 ∨ j = 3 ∨ j = 4 := by omega
    rcases hj with rfl | rfl | rfl | rfl | rfl
    · (conv => whnf)
      refine ⟨by decide, ?_⟩
      (conv => whnf)
      refine new_step (.cells #[.int .u8 ((UInt8.ofNat (n.toNat / 16777216)).toNat : Int)] 5) ?_ fun q hq' => ?_
      · exact congrArg (fun z => Obj.cells #[.int .u8 z] 5) (byte_val' n n0 24 (by decide))
      (conv => whnf)
      refine append_mine tab_ok rfl rfl rfl rfl rfl ⟨_, rfl, fun k h => by cases h⟩ ⟨_, rfl, rfl⟩ (by decide) (hm.mono (Ext.new hq' _)) (m := 1) (ys := [.int .u8 ((UInt8.ofNat (n.toNat / 16777216)).toNat : Int)]) (y := .slice (some ⟨q, 0, none⟩) 1 1) ⟨rfl, .inl ⟨_, _, rfl, fun i u hi => ⟨_, rfl, ?_⟩⟩⟩ (fun u hu => by rw [List.mem_singleton.1 hu]; rfl) (by show 2 * (l.length + 0 + 1) * 1 ≤ _; omega) fun s' F3 h1 h2 => ?_
      · rw [add_plain, Heap.cell_at (Heap.put_same _ _ _)]
        cases i with
        | zero => simpa using hi
        | succ i => simp at hi
      (conv => whnf)
      refine ⟨3, by omega, 1, s', rfl, rfl, ?_⟩
      have := h1
      simpa [bytesOf, be4] using this
    · (conv => whnf)
      refine ⟨by decide, ?_⟩
      (conv => whnf)
      refine new_step (.cells #[.int .u8 ((UInt8.ofNat (n.toNat / 65536)).toNat : Int)] 5) ?_ fun q hq' => ?_
      · exact congrArg (fun z => Obj.cells #[.int .u8 z] 5) (byte_val' n n0 16 (by decide))
      (conv => whnf)
      refine append_mine tab_ok rfl rfl rfl rfl rfl ⟨_, rfl, fun k h => by cases h⟩ ⟨_, rfl, rfl⟩ (by decide) (hm.mono (Ext.new hq' _)) (m := 1) (ys := [.int .u8 ((UInt8.ofNat (n.toNat / 65536)).toNat : Int)]) (y := .slice (some ⟨q, 0, none⟩) 1 1) ⟨rfl, .inl ⟨_, _, rfl, fun i u hi => ⟨_, rfl, ?_⟩⟩⟩ (fun u hu => by rw [List.mem_singleton.1 hu]; rfl) (by show 2 * (l.length + 1 + 1) * 1 ≤ _; omega) fun s' F3 h1 h2 => ?_
      · rw [add_plain, Heap.cell_at (Heap.put_same _ _ _)]
        cases i with
        | zero => simpa using hi
        | succ i => simp at hi
      (conv => whnf)
      refine ⟨2, by omega, 2, s', rfl, rfl, ?_⟩
      have := h1
      simpa [bytesOf, be4] using this
    · (conv => whnf)
      refine ⟨by decide, ?_⟩
      (conv => whnf)
      refine new_step (.cells #[.int .u8 ((UInt8.ofNat (n.toNat / 256)).toNat : Int)] 5) ?_ fun q hq' => ?_
      · exact congrArg (fun z => Obj.cells #[.int .u8 z] 5) (byte_val' n n0 8 (by decide))
      (conv => whnf)
      refine append_mine tab_ok rfl rfl rfl rfl rfl ⟨_, rfl, fun k h => by cases h⟩ ⟨_, rfl, rfl⟩ (by decide) (hm.mono (Ext.new hq' _)) (m := 1) (ys := [.int .u8 ((UInt8.ofNat (n.toNat / 256)).toNat : Int)]) (y := .slice (some ⟨q, 0, none⟩) 1 1) ⟨rfl, .inl ⟨_, _, rfl, fun i u hi => ⟨_, rfl, ?_⟩⟩⟩ (fun u hu => by rw [List.mem_singleton.1 hu]; rfl) (by show 2 * (l.length + 2 + 1) * 1 ≤ _; omega) fun s' F3 h1 h2 => ?_
      · rw [add_plain, Heap.cell_at (Heap.put_same _ _ _)]
        cases i with
        | zero => simpa using hi
        | succ i => simp at hi
      (conv => whnf)
      refine ⟨1, by omega, 3, s', rfl, rfl, ?_⟩
      have := h1
      simpa [bytesOf, be4] using this
    · (conv => whnf)
      refine ⟨by decide, ?_⟩
      (conv => whnf)
      refine new_step (.cells #[.int .u8 ((UInt8.ofNat (n.toNat / 1)).toNat : Int)] 5) ?_ fun q hq' => ?_
      · exact congrArg (fun z => Obj.cells #[.int .u8 z] 5) (byte_val' n n0 0 (by decide))
      (conv => whnf)
      refine append_mine tab_ok rfl rfl rfl rfl rfl ⟨_, rfl, fun k h => by cases h⟩ ⟨_, rfl, rfl⟩ (by decide) (hm.mono (Ext.new hq' _)) (m := 1) (ys := [.int .u8 ((UInt8.ofNat (n.toNat / 1)).toNat : Int)]) (y := .slice (some ⟨q, 0, none⟩) 1 1) ⟨rfl, .inl ⟨_, _, rfl, fun i u hi => ⟨_, rfl, ?_⟩⟩⟩ (fun u hu => by rw [List.mem_singleton.1 hu]; rfl) (by show 2 * (l.length + 3 + 1) * 1 ≤ _; omega) fun s' F3 h1 h2 => ?_
      · rw [add_plain, Heap.cell_at (Heap.put_same _ _ _)]
        cases i with
        | zero => simpa using hi
        | succ i => simp at hi
      (conv => whnf)
      refine ⟨0, by omega, 4, s', rfl, rfl, ?_⟩
      have := h1
      simpa [bytesOf, be4] using this
    · have hm' : Mine F F2 s 5 1 (l ++ be4 n.toNat).length (bytesOf (l ++ be4 n.toNat)) := by rw [List.length_append]; exact hm
      (conv => whnf)
      exact hm'
end Go.Proofs.Ytkahpaipciooiaa.Al

/- Texts of this claim, joined: AlData AlNum NumG AlRows AlFork CmdA CmdMay CmdRMay CmdNums CmdEnc. -/
import Derived.Test.YtbgijjoemnfnmaaMgText1
/- The logic of a known part of memory, 11: rows of numbers and of bytes among a law's arguments. It holds for every program. -/
namespace Go.Al
open Go Go.RowKit

theorem elems_ints {F : Heap} {A : Option Addr} {k : IntKind} {xs : List Int} (h : Elems F A 1 (kInt k) xs) : RowAt F A (xs.map (.int k)) := by
  intro j v hj
  rw [List.getElem?_map] at hj
  obtain ⟨x, hx, rfl⟩ := Option.map_eq_some_iff.1 hj
  obtain ⟨a, c, h1, h2, h3, h4⟩ := h j x hx
  obtain rfl : c = [.int k x] := h3
  refine ⟨a, h1, ?_⟩
  have := h4 0 (.int k x) rfl
  rwa [Nat.mul_one, Nat.add_zero] at this
theorem bytes_of_wf {xs : List Int} (h : ∀ x ∈ xs, (Lit.int .u8 x).wf = true) : ∃ l : List UInt8, xs = l.map fun b => (b.toNat : Int) := by
  induction xs with
  | nil => exact ⟨[], rfl⟩
  | cons x xs ih =>
    obtain ⟨l, hl⟩ := ih fun y hy => h y (by simp [hy])
    have hx := h x (by simp)
    simp [Lit.wf, IntKind.min, IntKind.max, IntKind.signed, IntKind.bits] at hx
    refine ⟨UInt8.ofNat x.toNat :: l, ?_⟩
    rw [List.map_cons, ← hl, UInt8.toNat_ofNat', Nat.mod_eq_of_lt (by omega)]
    congr 1
    omega
theorem elems_bytes {F : Heap} {A : Option Addr} {l : List UInt8} (h : Elems F A 1 (kInt .u8) (l.map fun b => (b.toNat : Int))) : RowAt F A (l.map fun b => .int .u8 b.toNat) := by
  have := elems_ints h
  rwa [List.map_map] at this
theorem wf_i64 {a : Int} (w : (Lit.int .i64 a).wf = true) : -9223372036854775808 ≤ a ∧ a < 9223372036854775808 := by
  simp [Lit.wf, IntKind.min, IntKind.max, IntKind.signed, IntKind.bits] at w
  omega
theorem ext_put_put {F : Heap} {p : Nat} {o o' : Obj} (hp : F p = none) : Ext F ((F.put p o).put p o') := by
  intro b u hb
  have hne : b ≠ p := fun e => by rw [e, hp] at hb; cases hb
  rw [Heap.put_other _ _ hne, Heap.put_other _ _ hne]
  exact hb
/-- The slots that are read later, and no others: a long environment made short. -/
theorem short {X : Env → Heap → Prop} {env : Env} {F : Heap} (ss : List Nat) (vs : List Value) (hv : ss.map env = vs) (h : ∀ ρ : Env, X (slotsE ρ ss vs) F) : X env F := by
  have := h env
  rw [← hv, slotsE_self] at this
  exact this
end Go.Al
/- Numbers and their bytes, in plain words: one, two, four or eight bytes, the highest first. -/
namespace Go.Al
open Go Go.RowKit

def bytesOf (l : List UInt8) : List Value := l.map fun x => .int .u8 x.toNat
/-- The byte of n that stands k bytes ahead of the last. -/
def byteAt (n : Int) (k : Nat) : UInt8 := UInt8.ofNat ((n % 18446744073709551616).toNat / 256 ^ k)
def beM : Nat → Int → List UInt8
  | 0, _ => []
  | m + 1, n => byteAt n m :: beM m n
def inM (m : Nat) (n : Int) : Bool := bif Nat.beq m 8 then true else decide (0 ≤ n) && decide (n < (256 ^ m : Nat))
def putM (m : Nat) (l : List UInt8) (n : Int) : List UInt8 := bif inM m n then l ++ beM m n else l
abbrev Siz (m : Nat) : Prop := m = 1 ∨ m = 2 ∨ m = 4 ∨ m = 8
theorem beM_len : ∀ (m : Nat) (n : Int), (beM m n).length = m := by
  intro m
  induction m with
  | zero => intro n; rfl
  | succ m ih => intro n; show (beM m n).length + 1 = m + 1; rw [ih]
theorem beM_at : ∀ (m : Nat) (n : Int) (j : Nat), j < m → (beM m n)[j]? = some (byteAt n (m - 1 - j)) := by
  intro m
  induction m with
  | zero => intro n j h; omega
  | succ m ih =>
    intro n j h
    cases j with
    | zero => rfl
    | succ j =>
      rw [show beM (m + 1) n = byteAt n m :: beM m n from rfl, List.getElem?_cons_succ, ih n j (by omega)]
      congr 2
      omega
theorem beM_take {m : Nat} {n : Int} {j : Nat} (h : j < m) : (beM m n).take (j + 1) = (beM m n).take j ++ [byteAt n (m - 1 - j)] := by
  rw [List.take_add_one, beM_at m n j h]
  rfl
theorem putM_len (m : Nat) (l : List UInt8) (n : Int) : (putM m l n).length ≤ l.length + m := by
  unfold putM
  cases inM m n with
  | false => exact Nat.le_add_right _ _
  | true => rw [cond_true, List.length_append, beM_len]; exact Nat.le_refl _
theorem byteAt_int (n : Int) (k : Nat) (hk : k ≤ 7) : ((byteAt n k).toNat : Int) = n / (256 ^ k : Nat) % 256 := by
  unfold byteAt
  rw [UInt8.toNat_ofNat']
  have h : k = 0 ∨ k = 1 ∨ k = 2 ∨ k = 3 ∨ k = 4 ∨ k = 5 ∨ k = 6 ∨ k = 7 := by omega
  rcases h with rfl | rfl | rfl | rfl | rfl | rfl | rfl | rfl
  all_goals
    simp only [Nat.reducePow]
    omega
theorem u8_wrap (z : Int) : IntKind.u8.wrap z = z % 256 := by
  simp only [IntKind.wrap, IntKind.signed, IntKind.bits]
  simp
theorem u64_wrap (z : Int) : IntKind.u64.wrap z = z % 18446744073709551616 := by
  simp only [IntKind.wrap, IntKind.signed, IntKind.bits]
  simp
theorem shift_pow (s : Int) (k : Nat) (hs : s = 8 * k) (hk : k ≤ 7) : ((2 : Int) ^ min s.toNat 64) = ((256 ^ k : Nat) : Int) := by
  have h : k = 0 ∨ k = 1 ∨ k = 2 ∨ k = 3 ∨ k = 4 ∨ k = 5 ∨ k = 6 ∨ k = 7 := by omega
  subst hs
  rcases h with rfl | rfl | rfl | rfl | rfl | rfl | rfl | rfl <;> decide
theorem byte_u (n : Int) (s : Int) (k : Nat) (hs : s = 8 * k) (hk : k ≤ 7) : IntKind.u8.wrap ((IntKind.u64.wrap n).fdiv (2 ^ min s.toNat 64)) = ((byteAt n k).toNat : Int) := by
  rw [shift_pow s k hs hk, u64_wrap, Int.fdiv_eq_ediv_of_nonneg _ (Int.natCast_nonneg _), u8_wrap]
  unfold byteAt
  rw [UInt8.toNat_ofNat']
  have h0 : 0 ≤ n % 18446744073709551616 := Int.emod_nonneg _ (by decide)
  obtain ⟨N, hN⟩ := Int.eq_ofNat_of_zero_le h0
  rw [hN]
  simp
theorem byte_i (n : Int) (s : Int) (k : Nat) (hs : s = 8 * k) (hk : k ≤ 7) : IntKind.u8.wrap (n.fdiv (2 ^ min s.toNat 64)) = ((byteAt n k).toNat : Int) := by
  rw [shift_pow s k hs hk, Int.fdiv_eq_ediv_of_nonneg _ (Int.natCast_nonneg _), u8_wrap, byteAt_int n k hk]

/-- The number that bytes are. -/
def gB (l : List UInt8) : Nat := l.foldl (fun n x => n * 256 + x.toNat) 0
def getV (l : List UInt8) : Int := IntKind.i64.wrap ((gB l : Nat) : Int)
theorem gB_go : ∀ (l : List UInt8) (n : Nat), l.foldl (fun n x => n * 256 + x.toNat) n = n * 256 ^ l.length + gB l := by
  intro l
  induction l with
  | nil => intro n; simp [gB]
  | cons x l ih =>
    intro n
    unfold gB
    rw [List.foldl_cons, List.foldl_cons, ih, ih, List.length_cons, Nat.pow_succ, Nat.add_mul, Nat.zero_mul, Nat.zero_add, Nat.mul_assoc, Nat.mul_comm 256, Nat.add_assoc]
theorem gB_cons (x : UInt8) (l : List UInt8) : gB (x :: l) = x.toNat * 256 ^ l.length + gB l := by
  show (l.foldl _ (0 * 256 + x.toNat)) = _
  rw [gB_go, Nat.zero_mul, Nat.zero_add]
theorem gB_lt : ∀ (l : List UInt8), gB l < 256 ^ l.length := by
  intro l
  induction l with
  | nil => exact Nat.one_pos
  | cons x l ih =>
    rw [gB_cons, List.length_cons, Nat.pow_succ]
    have hx := x.toNat_lt
    have h1 : x.toNat * 256 ^ l.length ≤ 255 * 256 ^ l.length := Nat.mul_le_mul_right _ (by omega)
    omega
theorem gB_step (l : List UInt8) (j : Nat) (x : UInt8) (hx : l[j]? = some x) : gB (l.take (j + 1)) = gB (l.take j) * 256 + x.toNat := by
  unfold gB
  rw [List.take_add_one, hx, Option.toList_some, List.foldl_append]
  rfl
theorem gB_beM : ∀ (m : Nat) (n : Int), gB (beM m n) = (n % 18446744073709551616).toNat % 256 ^ m := by
  intro m
  induction m with
  | zero => intro n; rw [Nat.pow_zero, Nat.mod_one]; rfl
  | succ m ih =>
    intro n
    rw [show beM (m + 1) n = byteAt n m :: beM m n from rfl, gB_cons, beM_len, ih]
    unfold byteAt
    rw [UInt8.toNat_ofNat']
    have := Nat.mod_pow_succ (x := (n % 18446744073709551616).toNat) (b := 256) (k := m)
    rw [this]
    show (n % 18446744073709551616).toNat / 256 ^ m % 256 * 256 ^ m + _ = _
    rw [Nat.mul_comm, Nat.add_comm]
theorem getV_nat {l : List UInt8} (h : l.length ≤ 4) : getV l = ((gB l : Nat) : Int) := by
  have h1 := gB_lt l
  have h2 : 256 ^ l.length ≤ 256 ^ 4 := Nat.pow_le_pow_right (by decide) h
  unfold getV
  rw [IntKind.wrap_i64]
  omega
theorem getV_back {m : Nat} {n : Int} (hm : Siz m) (h : inM m n = true) (h0 : -9223372036854775808 ≤ n) (h1 : n < 9223372036854775808) : getV (beM m n) = n := by
  unfold getV
  rw [gB_beM, IntKind.wrap_i64]
  unfold inM at h
  rcases hm with rfl | rfl | rfl | rfl
  · simp at h; omega
  · simp at h; omega
  · simp at h; omega
  · simp only [Nat.reducePow]; omega
theorem or_nat8 (n : Nat) (x : UInt8) : n * 256 ||| x.toNat = n * 256 + x.toNat := by
  have := Nat.shiftLeft_add_eq_or_of_lt (b := x.toNat) (i := 8) x.toNat_lt n
  rw [Nat.shiftLeft_eq] at this
  exact this.symm
theorem or_u (n : Nat) (x : UInt8) (hn : n < 72057594037927936) : IntKind.u64.wrap ((BitVec.ofInt IntKind.u64.bits (IntKind.u64.wrap ((n : Int) * 2 ^ min (8 : Int).toNat IntKind.u64.bits)) ||| BitVec.ofInt IntKind.u64.bits (IntKind.u64.wrap (x.toNat : Int))).toNat : Int) = ((n * 256 + x.toNat : Nat) : Int) := by
  have hx := x.toNat_lt
  have e1 : IntKind.u64.wrap ((n : Int) * 2 ^ min (8 : Int).toNat IntKind.u64.bits) = ((n * 256 : Nat) : Int) := by
    rw [show ((2 : Int) ^ min (8 : Int).toNat IntKind.u64.bits) = 256 by decide, u64_wrap]
    omega
  have e2 : IntKind.u64.wrap (x.toNat : Int) = (x.toNat : Int) := by
    rw [u64_wrap]
    omega
  rw [e1, e2, BitVec.toNat_or, BitVec.ofInt_natCast, BitVec.ofInt_natCast, BitVec.toNat_ofNat, BitVec.toNat_ofNat]
  rw [Nat.mod_eq_of_lt (by show n * 256 < 2 ^ 64; omega), Nat.mod_eq_of_lt (by show x.toNat < 2 ^ 64; omega), or_nat8, u64_wrap]
  omega
theorem ofInt_wrap (z : Int) : BitVec.ofInt 64 (IntKind.i64.wrap z) = BitVec.ofInt 64 z := by
  apply BitVec.eq_of_toNat_eq
  rw [BitVec.toNat_ofInt, BitVec.toNat_ofInt, IntKind.wrap_i64]
  omega
theorem or_i (n : Nat) (x : UInt8) (hn : n < 72057594037927936) : IntKind.i64.wrap ((BitVec.ofInt IntKind.i64.bits (IntKind.i64.wrap ((n : Int) * 2 ^ min (8 : Int).toNat IntKind.i64.bits)) ||| BitVec.ofInt IntKind.i64.bits (IntKind.i64.wrap (x.toNat : Int))).toNat : Int) = IntKind.i64.wrap ((n * 256 + x.toNat : Nat) : Int) := by
  have hx := x.toNat_lt
  have e0 : ((n : Int) * 2 ^ min (8 : Int).toNat IntKind.i64.bits) = ((n * 256 : Nat) : Int) := by
    rw [show ((2 : Int) ^ min (8 : Int).toNat IntKind.i64.bits) = 256 by decide]
    omega
  rw [e0]
  show IntKind.i64.wrap ((BitVec.ofInt 64 (IntKind.i64.wrap ((n * 256 : Nat) : Int)) ||| BitVec.ofInt 64 (IntKind.i64.wrap (x.toNat : Int))).toNat : Int) = _
  rw [ofInt_wrap, ofInt_wrap, BitVec.toNat_or, BitVec.ofInt_natCast, BitVec.ofInt_natCast, BitVec.toNat_ofNat, BitVec.toNat_ofNat]
  rw [Nat.mod_eq_of_lt (by show n * 256 < 2 ^ 64; omega), Nat.mod_eq_of_lt (by show x.toNat < 2 ^ 64; omega), or_nat8]
end Go.Al
/- The contracts of num.Right, num.Put, num.Get and of their references, at every size, over what is known of memory. -/
namespace Go.Proofs.Ytbgijjoemnfnmaa.Al
open Go Go.Al Go.Proofs Go.RowKit
set_option maxHeartbeats 8000000
set_option maxRecDepth 100000
set_option linter.unusedVariables false
set_option linter.unusedSimpArgs false
theorem sizedG (m : Nat) (hm : Siz m) (F : Heap) : FnK Try.prog 81 #[.int .i64 m] F (fun v F' => v = .bool true ∧ F' = F) := by
  rcases hm with rfl | rfl | rfl | rfl
  all_goals
    (refine fn_walk tab_ok Try.func81 rfl rfl rfl rfl ?_; (conv => whnf))
    exact ⟨rfl, rfl⟩
theorem rightG (m : Nat) (hm : Siz m) (n : Int) (F : Heap) : FnK Try.prog 70 #[.int .i64 n, .int .i64 m] F (fun v F' => v = .bool (inM m n) ∧ F' = F) := by
  have hs := sizedG m hm
  unfold inM
  rcases hm with rfl | rfl | rfl | rfl
  case inr.inr.inr =>
    (refine fn_walk tab_ok Try.func70 rfl rfl rfl rfl ?_; (conv => whnf))
    exact ⟨rfl, rfl⟩
  all_goals
    (refine fn_walk tab_ok Try.func70 rfl rfl rfl rfl ?_; (conv => whnf))
    refine call_of (hs F) ?_
    rintro v _ ⟨rfl, rfl⟩
    (conv => whnf)
    refine cond_split (fun h => ?_) (fun h => ?_)
    · (conv => whnf)
      refine ⟨by decide, ?_⟩
      (conv => whnf)
      replace h : decide (n ≥ 0) = true := h
      have h0 : 0 ≤ n := of_decide_eq_true h
      refine ⟨congrArg Value.bool ?_, rfl⟩
      show (n.fdiv (2 ^ min (IntKind.i64.wrap (8 * _)).toNat IntKind.i64.bits) == 0) = (decide (0 ≤ n) && decide _)
      rw [Int.fdiv_eq_ediv_of_nonneg n (Int.le_of_lt (Int.pow_pos (by decide))), decide_eq_true h0, Bool.true_and]
      rw [Bool.eq_iff_iff, beq_iff_eq, decide_eq_true_iff]
      simp only [Nat.reducePow]
      first
        | (rw [show ((2 : Int) ^ min (IntKind.i64.wrap (8 * ((1 : Nat) : Int))).toNat IntKind.i64.bits) = 256 by decide]; omega)
        | (rw [show ((2 : Int) ^ min (IntKind.i64.wrap (8 * ((2 : Nat) : Int))).toNat IntKind.i64.bits) = 65536 by decide]; omega)
        | (rw [show ((2 : Int) ^ min (IntKind.i64.wrap (8 * ((4 : Nat) : Int))).toNat IntKind.i64.bits) = 4294967296 by decide]; omega)
    · (conv => whnf)
      replace h : decide (n ≥ 0) = false := h
      exact ⟨by rw [show decide (0 ≤ n) = false from h]; rfl, rfl⟩
theorem rsizedG (m : Nat) (hm : Siz m) (F : Heap) : FnK Try.prog 82 #[.int .i64 m] F (fun v F' => v = .bool true ∧ F' = F) := by
  rcases hm with rfl | rfl | rfl | rfl
  all_goals
    (refine fn_walk tab_ok Try.func82 rfl rfl rfl rfl ?_; (conv => whnf))
    exact ⟨rfl, rfl⟩
theorem rpowG (m : Nat) (hm : m ≤ 4) (F : Heap) : FnK Try.prog 83 #[.int .i64 m] F (fun v F' => v = .int .i64 ((256 ^ m : Nat) : Int) ∧ F' = F) := by
  have hw : ∀ j : Nat, j < 4 → IntKind.i64.wrap (((256 ^ j : Nat) : Int) * 256) = ((256 ^ (j + 1) : Nat) : Int) := by
    intro j hj
    have h : j = 0 ∨ j = 1 ∨ j = 2 ∨ j = 3 := by omega
    rcases h with rfl | rfl | rfl | rfl <;> decide
  (refine fn_walk tab_ok Try.func83 rfl rfl rfl rfl ?_; (conv => whnf))
  refine loop_slots [0, 3, 4] (fun k vs F' => ∃ j : Nat, j + k = m ∧ vs = [.int .i64 m, .int .i64 ((256 ^ j : Nat) : Int), .int .i64 (j : Int)] ∧ F' = F) m ⟨0, by omega, rfl, rfl⟩ ?_
  rintro k vs F1 ρ ⟨j, hjk, rfl, rfl⟩
  generalize hp : ((256 ^ j : Nat) : Int) = p
  (conv => whnf)
  refine cond_split (fun h => ?_) (fun h => ?_)
  · have hj : j < m := by have := of_decide_eq_true h; omega
    (conv => whnf)
    refine ⟨k - 1, by omega, j + 1, by omega, ?_, rfl⟩
    have h1 : IntKind.i64.wrap ((j : Int) + 1) = ((j + 1 : Nat) : Int) := by rw [IntKind.wrap_i64]; omega
    rw [← h1, ← hw j (by omega), hp]
    rfl
  · have hj : j = m := by have := of_decide_eq_false h; omega
    subst hj
    (conv => whnf)
    exact ⟨congrArg (Value.int .i64) hp.symm, rfl⟩
theorem rrightG (m : Nat) (hm : Siz m) (n : Int) (F : Heap) : FnK Try.prog 71 #[.int .i64 n, .int .i64 m] F (fun v F' => v = .bool (inM m n) ∧ F' = F) := by
  have hs := rsizedG m hm
  have hp : m ≤ 4 → ∀ F, _ := fun h F => rpowG m h F
  unfold inM
  rcases hm with rfl | rfl | rfl | rfl
  case inr.inr.inr =>
    (refine fn_walk tab_ok Try.func71 rfl rfl rfl rfl ?_; (conv => whnf))
    exact ⟨rfl, rfl⟩
  all_goals
    (refine fn_walk tab_ok Try.func71 rfl rfl rfl rfl ?_; (conv => whnf))
    refine call_of (hs F) ?_
    rintro v _ ⟨rfl, rfl⟩
    (conv => whnf)
    refine cond_split (fun h => ?_) (fun h => ?_)
    · (conv => whnf)
      refine call_of (hp (by decide) _) ?_
      rintro v _ ⟨rfl, rfl⟩
      (conv => whnf)
      replace h : decide (n ≥ 0) = true := h
      exact ⟨by rw [show decide (0 ≤ n) = true from h]; rfl, rfl⟩
    · (conv => whnf)
      replace h : decide (n ≥ 0) = false := h
      exact ⟨by rw [show decide (0 ≤ n) = false from h]; rfl, rfl⟩
theorem hone_bytes (l : List UInt8) : ∀ v ∈ bytesOf l, v.oneCell' = true := fun v hv => by
  obtain ⟨x, _, rfl⟩ := List.mem_map.1 hv
  rfl
theorem bytes_len (l : List UInt8) : (bytesOf l).length = l.length := by simp [bytesOf]
theorem bytes_app (l k : List UInt8) : bytesOf (l ++ k) = bytesOf l ++ bytesOf k := by simp [bytesOf]
theorem putG (m : Nat) (hm : Siz m) (l : List UInt8) (A : Option Addr) (c : Nat) (n : Int) (F : Heap) (hr : RowAt F A (bytesOf l)) (hl : l.length ≤ 1000000) :
    FnK Try.prog 54 #[.slice A l.length c, .int .i64 n, .int .i64 m] F (fun v F' => Mine F F' v 5 1 (putM m l n).length (bytesOf (putM m l n))) := by
  unfold putM
  have hq := rightG m hm n
  have hm8 : 1 ≤ m ∧ m ≤ 8 := by rcases hm with rfl | rfl | rfl | rfl <;> decide
  clear hm
  generalize inM m n = z at hq
  (refine fn_walk tab_ok Try.func54 rfl rfl rfl rfl ?_; (conv => whnf))
  refine make_one tab_ok (l.length) (l.length + 8) rfl rfl (by show Value.int _ _ = _; rw [show IntKind.i64.wrap ((l.length : Int) + 8) = ((l.length + 8 : Nat) : Int) by rw [IntKind.wrap_i64]; omega]) rfl rfl ⟨rfl, by decide, _, rfl, rfl⟩ (by omega) (by show (l.length + 8) * 1 ≤ _; omega) fun g hg => ?_
  (conv => whnf)
  refine copy_all tab_ok rfl rfl rfl rfl rfl (m := l.length) (y := .slice A l.length c) (ys := bytesOf l) ⟨by simp [bytesOf], .inl ⟨_, _, rfl, hr.mono (Ext.new hg _)⟩⟩ (Nat.le_refl _) (Heap.put_same _ _ _) (.inl (Nat.le_refl 0)) (by simp) (hone_bytes l) ?_
  rw [Heap.put_put]
  have hm : Mine F (F.put g (.cells (putL (List.replicate (l.length + 8) (Value.int .u8 0)).toArray.toList 0 (bytesOf l)).toArray 5)) (.slice (some ⟨g, 0, none⟩) l.length (l.length + 8)) 5 1 l.length (bytesOf l) := by
    refine ⟨⟨by simp [bytesOf], .inr ⟨g, l.length + 8, _, rfl, Live.put _ _ _ _, by simp [length_putL], by omega, ?_⟩⟩, fun b hb => ?_, Ext.new hg _⟩
    · rw [List.toList_toArray, putL_eq _ _ _ (by simp [bytesOf]), List.take_zero, List.nil_append, List.take_left' (by simp [bytesOf])]
    · obtain rfl : g = b := Option.some.inj hb
      exact hg
  generalize F.put g _ = F1 at hm ⊢
  generalize (⟨g, 0, none⟩ : Addr) = ga at hm ⊢
  (conv => whnf)
  refine call_of (hq _) ?_
  rintro v _ ⟨rfl, rfl⟩
  cases z with
  | false =>
    (conv => whnf)
    exact hm
  | true =>
    have hsh : IntKind.i64.wrap (8 * IntKind.i64.wrap ((m : Int) - 1)) = 8 * (m : Int) - 8 - 8 * ((0 : Nat) : Int) := by
      rw [show IntKind.i64.wrap ((m : Int) - 1) = (m : Int) - 1 by rw [IntKind.wrap_i64]; omega, IntKind.wrap_i64]
      omega
    (conv => whnf)
    refine loop_slots [1, 7, 8] (fun k vs F' => ∃ (j : Nat) (s : Value), j + k = m ∧ vs = [.int .i64 n, s, .int .i64 (8 * (m : Int) - 8 - 8 * (j : Int))] ∧ Mine F F' s 5 1 (l.length + j) (bytesOf (l ++ (beM m n).take j))) m ⟨0, .slice (some ga) l.length (l.length + 8), by omega, by rw [← hsh]; rfl, by simpa using hm⟩ ?_
    rintro k vs F2 ρ ⟨j, s, hjk, rfl, hm⟩
    clear hq hsh
    have hd : IntKind.i64.wrap (8 * (m : Int) - 8 - 8 * (j : Int) - 8) = 8 * (m : Int) - 8 - 8 * ((j + 1 : Nat) : Int) := by
      rw [IntKind.wrap_i64]
      omega
    have hbu : j < m → IntKind.u8.wrap ((IntKind.u64.wrap n).fdiv (2 ^ min (8 * (m : Int) - 8 - 8 * (j : Int)).toNat 64)) = ((byteAt n (m - 1 - j)).toNat : Int) := fun h => byte_u n _ (m - 1 - j) (by omega) (by omega)
    have hge : decide (8 * (m : Int) - 8 - 8 * (j : Int) ≥ 0) = decide (j < m) := by
      rw [Bool.eq_iff_iff, decide_eq_true_iff, decide_eq_true_iff]
      omega
    generalize hsv : 8 * (m : Int) - 8 - 8 * (j : Int) = sv at hd hbu hge
    (conv => whnf)
    refine cond_split (fun h => ?_) (fun h => ?_)
    · have h : decide (sv ≥ 0) = true := h
      have hj : j < m := by rw [hge] at h; exact of_decide_eq_true h
      have hsv0 := of_decide_eq_true h
      have hbv := hbu hj
      clear hbu hge
      (conv => whnf)
      refine ⟨hsv0, ?_⟩
      (conv => whnf)
      refine new_step (.cells #[.int .u8 ((byteAt n (m - 1 - j)).toNat : Int)] 5) ?_ fun q hq' => ?_
      · exact congrArg (fun z => Obj.cells #[.int .u8 z] 5) hbv
      (conv => whnf)
      refine append_mine tab_ok rfl rfl rfl rfl rfl ⟨_, rfl, fun k h => by cases h⟩ ⟨_, rfl, rfl⟩ (by decide) (hm.mono (Ext.new hq' _)) (m := 1) (ys := [.int .u8 ((byteAt n (m - 1 - j)).toNat : Int)]) (y := .slice (some ⟨q, 0, none⟩) 1 1) ⟨rfl, .inl ⟨_, _, rfl, fun i u hi => ⟨_, rfl, ?_⟩⟩⟩ (fun u hu => by rw [List.mem_singleton.1 hu]; rfl) (by show 2 * (l.length + j + 1) * 1 ≤ _; omega) fun s' F3 h1 h2 => ?_
      · rw [add_plain, Heap.cell_at (Heap.put_same _ _ _)]
        cases i with
        | zero => simpa using hi
        | succ i => simp at hi
      (conv => whnf)
      refine ⟨k - 1, by omega, j + 1, s', by omega, ?_, ?_⟩
      · rw [← hd]; rfl
      · rw [beM_take hj, ← List.append_assoc, bytes_app]
        exact h1
    · have h : decide (sv ≥ 0) = false := h
      have hj : j = m := by rw [hge] at h; have := of_decide_eq_false h; omega
      subst hj
      have hm' : Mine F F2 s 5 1 (l ++ beM j n).length (bytesOf (l ++ beM j n)) := by
        rw [List.length_append, beM_len]
        rw [List.take_of_length_le (by rw [beM_len]; exact Nat.le_refl _)] at hm
        exact hm
      (conv => whnf)
      exact hm'
theorem rputG (m : Nat) (hm : Siz m) (l : List UInt8) (A : Option Addr) (c : Nat) (n : Int) (F : Heap) (hr : RowAt F A (bytesOf l)) (hl : l.length ≤ 1000000) :
    FnK Try.prog 57 #[.slice A l.length c, .int .i64 n, .int .i64 m] F (fun v F' => Mine F F' v 5 1 (putM m l n).length (bytesOf (putM m l n))) := by
  unfold putM
  have hq := rrightG m hm n
  have hm8 : 1 ≤ m ∧ m ≤ 8 := by rcases hm with rfl | rfl | rfl | rfl <;> decide
  clear hm
  generalize inM m n = z at hq
  (refine fn_walk tab_ok Try.func57 rfl rfl rfl rfl ?_; (conv => whnf))
  refine append_mine tab_ok rfl rfl rfl rfl rfl ⟨_, rfl, fun k h => by cases h⟩ ⟨_, rfl, rfl⟩ (by decide) (Mine.nil F F 5 1 (Ext.refl F)) (m := l.length) (ys := bytesOf l) (y := .slice A l.length c) ⟨by simp [bytesOf], .inl ⟨_, _, rfl, hr⟩⟩ (hone_bytes l) (by show 2 * (0 + l.length) * 1 ≤ _; omega) fun s F1 hm _ => ?_
  rw [Nat.zero_add, List.nil_append] at hm
  (conv => whnf)
  refine call_of (hq _) ?_
  rintro v _ ⟨rfl, rfl⟩
  cases z with
  | false =>
    (conv => whnf)
    exact hm
  | true =>
    have hsh : IntKind.i64.wrap ((m : Int) - 1) = (m : Int) - 1 - ((0 : Nat) : Int) := by
      rw [IntKind.wrap_i64]
      omega
    (conv => whnf)
    refine loop_slots [1, 7, 8] (fun k vs F' => ∃ (j : Nat) (s : Value), j + k = m ∧ vs = [.int .i64 n, s, .int .i64 ((m : Int) - 1 - (j : Int))] ∧ Mine F F' s 5 1 (l.length + j) (bytesOf (l ++ (beM m n).take j))) m ⟨0, s, by omega, by rw [← hsh]; rfl, by simpa using hm⟩ ?_
    rintro k vs F2 ρ ⟨j, s, hjk, rfl, hm⟩
    clear hq hsh
    have hd : IntKind.i64.wrap ((m : Int) - 1 - (j : Int) - 1) = (m : Int) - 1 - ((j + 1 : Nat) : Int) := by
      rw [IntKind.wrap_i64]
      omega
    have h8 : j < m → IntKind.i64.wrap (8 * ((m : Int) - 1 - (j : Int))) = 8 * ((m - 1 - j : Nat) : Int) := fun h => by
      rw [IntKind.wrap_i64]
      omega
    have hge : decide ((m : Int) - 1 - (j : Int) ≥ 0) = decide (j < m) := by
      rw [Bool.eq_iff_iff, decide_eq_true_iff, decide_eq_true_iff]
      omega
    generalize hsv : (m : Int) - 1 - (j : Int) = sv at hd h8 hge
    have hbu : j < m → IntKind.u8.wrap (n.fdiv (2 ^ min (IntKind.i64.wrap (8 * sv)).toNat 64)) = ((byteAt n (m - 1 - j)).toNat : Int) := fun h => byte_i n _ (m - 1 - j) (h8 h) (by omega)
    (conv => whnf)
    refine cond_split (fun h => ?_) (fun h => ?_)
    · have h : decide (sv ≥ 0) = true := h
      have hj : j < m := by rw [hge] at h; exact of_decide_eq_true h
      have hsv0 : 0 ≤ IntKind.i64.wrap (8 * sv) := by rw [h8 hj]; omega
      have hbv := hbu hj
      clear hbu hge
      (conv => whnf)
      refine ⟨hsv0, ?_⟩
      (conv => whnf)
      refine new_step (.cells #[.int .u8 ((byteAt n (m - 1 - j)).toNat : Int)] 5) ?_ fun q hq' => ?_
      · exact congrArg (fun z => Obj.cells #[.int .u8 z] 5) hbv
      (conv => whnf)
      refine append_mine tab_ok rfl rfl rfl rfl rfl ⟨_, rfl, fun k h => by cases h⟩ ⟨_, rfl, rfl⟩ (by decide) (hm.mono (Ext.new hq' _)) (m := 1) (ys := [.int .u8 ((byteAt n (m - 1 - j)).toNat : Int)]) (y := .slice (some ⟨q, 0, none⟩) 1 1) ⟨rfl, .inl ⟨_, _, rfl, fun i u hi => ⟨_, rfl, ?_⟩⟩⟩ (fun u hu => by rw [List.mem_singleton.1 hu]; rfl) (by show 2 * (l.length + j + 1) * 1 ≤ _; omega) fun s' F3 h1 h2 => ?_
      · rw [add_plain, Heap.cell_at (Heap.put_same _ _ _)]
        cases i with
        | zero => simpa using hi
        | succ i => simp at hi
      (conv => whnf)
      refine ⟨k - 1, by omega, j + 1, s', by omega, ?_, ?_⟩
      · rw [← hd]; rfl
      · rw [beM_take hj, ← List.append_assoc, bytes_app]
        exact h1
    · have h : decide (sv ≥ 0) = false := h
      have hj : j = m := by rw [hge] at h; have := of_decide_eq_false h; omega
      subst hj
      have hm' : Mine F F2 s 5 1 (l ++ beM j n).length (bytesOf (l ++ beM j n)) := by
        rw [List.length_append, beM_len]
        rw [List.take_of_length_le (by rw [beM_len]; exact Nat.le_refl _)] at hm
        exact hm
      (conv => whnf)
      exact hm'
end Go.Proofs.Ytbgijjoemnfnmaa.Al
/- The logic of a known part of memory, 12: rows whose elements take several cells. It holds for every program. -/
namespace Go.Al
open Go Go.RowKit

theorem cell_block {F : Heap} {a : Addr} {v : Value} (h : F.cell? a = some v) : ∃ c e fz, F a.block = some (.cells c e fz) ∧ a.spot = none ∧ c[a.off]? = some v := by
  unfold Heap.cell? at h
  split at h
  · next c e fz hb =>
    split at h
    · cases h
    · next hs => exact ⟨c, e, fz, hb, by simpa using hs, h⟩
  · cases h
theorem add_parts (a : Addr) (i : Nat) : (a.add i).block = a.block ∧ (a.add i).off = a.off + i := by
  unfold Addr.add
  split
  · next h => subst h; exact ⟨rfl, rfl⟩
  · exact ⟨rfl, rfl⟩
/-- An element of n cells, read as one. -/
theorem loads_row {F : Heap} {a : Addr} {vs : List Value} {n i : Nat} {K : Value → Prop} (hr : RowAt F (some a) vs) (hn : 0 < n) (hi : i + n ≤ vs.length) (hk : K (.agg ((vs.drop i).take n).toArray)) : LoadsK F (a.add i) n K := by
  have cell : ∀ j, j < n → ∃ v, vs[i + j]? = some v ∧ F.cell? (a.add (i + j)) = some v := fun j hj => by
    have : vs[i + j]? = some (vs[i + j]'(by omega)) := List.getElem?_eq_getElem (by omega)
    exact ⟨_, this, hr.cell this⟩
  obtain ⟨v0, h0, hc0⟩ := cell 0 hn
  rw [Nat.add_zero] at h0 hc0
  obtain ⟨c, e, fz, hb, hs, hv⟩ := cell_block hc0
  obtain ⟨hbl, hoff⟩ := add_parts a i
  have all : ∀ j, j < n → c[(a.add i).off + j]? = vs[i + j]? := fun j hj => by
    obtain ⟨v, h1, h2⟩ := cell j hj
    obtain ⟨c', e', fz', hb', hs', hv'⟩ := cell_block h2
    obtain ⟨hbl', hoff'⟩ := add_parts a (i + j)
    rw [hbl'] at hb'
    rw [hbl] at hb
    rw [hb] at hb'
    injection hb' with hb'
    injection hb' with e1
    subst e1
    rw [h1, ← hv', hoff, hoff', Nat.add_assoc]
  have hsz : (a.add i).off + n ≤ c.size := by
    have h1 := all (n - 1) (by omega)
    obtain ⟨v, h2, _⟩ := cell (n - 1) (by omega)
    rw [h2] at h1
    have := (Array.getElem?_eq_some_iff.1 h1).1
    omega
  refine ⟨⟨c, e, fz, hb, hs, hsz, ?_⟩⟩
  have : c.extract (a.add i).off ((a.add i).off + n) = ((vs.drop i).take n).toArray := by
    apply Array.ext'
    apply List.ext_getElem?
    intro j
    rw [Array.toList_extract, List.extract_eq_take_drop, List.getElem?_take, List.toList_toArray, List.getElem?_take]
    rw [show (a.add i).off + n - (a.add i).off = n by omega]
    by_cases hj : j < n
    · rw [if_pos hj, if_pos hj, List.getElem?_drop, List.getElem?_drop]
      have := all j hj
      simpa using this
    · rw [if_neg hj, if_neg hj]
  rw [this]
  exact hk
/-- A row that reads as these bytes. -/
def Bs (F : Heap) (v : Value) (bs : List UInt8) : Prop := ∃ A c, v = .slice A bs.length c ∧ bs.length ≤ c ∧ RowAt F A (bytesOf bs)
theorem Bs.mono {F G : Heap} {v : Value} {bs : List UInt8} (h : Bs F v bs) (hE : Ext F G) : Bs G v bs := by
  obtain ⟨A, c, h1, h2, h3⟩ := h
  exact ⟨A, c, h1, h2, h3.mono hE⟩
theorem Bs.nil (F : Heap) : Bs F (.slice none 0 0) [] := ⟨none, 0, rfl, Nat.le_refl _, RowAt.nil _ _⟩
theorem Bs.of_mine {F F' : Heap} {v : Value} {e : TypeId} {bs : List UInt8} (h : Mine F F' v e 1 bs.length (bytesOf bs)) : Bs F' v bs := by
  obtain ⟨A, c, h1, h2, h3⟩ := h.own.row
  exact ⟨A, c, h1, h2, h3⟩
theorem Mine.down {F G F' : Heap} {s : Value} {e z n : Nat} {vs : List Value} (h : Mine G F' s e z n vs) (hE : Ext F G) : Mine F F' s e z n vs := by
  refine ⟨h.own, fun b hb => ?_, hE.trans h.ext⟩
  cases e0 : F b with
  | none => rfl
  | some o =>
    have := h.fresh b hb
    rw [hE b o e0] at this
    cases this
/-- A row stays where one block alone is changed. -/
theorem row_keeps {F F' : Heap} {A : Option Addr} {vs : List Value} {w : Nat} (h : RowAt F A vs) (hA : ∀ a, A = some a → a.block ≠ w) (hk : Keeps F F' (some w)) : RowAt F' A vs := fun j v hj => by
  obtain ⟨a, h1, h2⟩ := h j v hj
  refine ⟨a, h1, ?_⟩
  obtain ⟨c, e, fz, hb, hs, hv⟩ := cell_block h2
  have hbl : (a.add j).block = a.block := (add_parts a j).1
  have := hk _ _ hb (fun e => hA a h1 (by rw [← hbl]; exact (Option.some.inj e).symm))
  unfold Heap.cell?
  rw [this]
  simp only [hs, Option.isSome_none, Bool.false_eq_true, if_false]
  exact hv
theorem Keeps.trans {F G H : Heap} {w : Option Nat} (h : Keeps F G w) (k : Keeps G H w) : Keeps F H w := fun c o hc hw => k c o (h c o hc hw) hw
theorem Mine.put {F0 F : Heap} {S : Value} {e z n : Nat} {vs : List Value} {w : Nat} (h : Mine F0 F S e z n vs) (h0 : F0 w = none) (hb : blk S ≠ some w) (o : Obj) : Mine F0 (F.put w o) S e z n vs := by
  refine ⟨h.own.of_blk fun q u hq hu => ?_, h.fresh, h.ext.put h0 _⟩
  have hne : q ≠ w := fun e => hb (by rw [hq, e])
  rw [Heap.put_other _ _ hne]; exact hu
theorem Mine.keeps {F0 F F' : Heap} {S : Value} {e z n : Nat} {vs : List Value} {r : Nat} (h : Mine F0 F S e z n vs) (hb : blk S ≠ some r) (hk : Keeps F F' (some r)) (h0 : F0 r = none) : Mine F0 F' S e z n vs := by
  refine ⟨h.own.of_blk fun q u hq hu => hk _ _ hu fun e => hb (by rw [hq, e]), h.fresh, hk.ext h.ext fun k hk' => ?_⟩
  obtain rfl := Option.some.inj hk'
  exact h0
/-- A row's block holds cells of its own type. -/
theorem Own.blk_ne {F : Heap} {S : Value} {e z n : Nat} {vs : List Value} {q : Nat} {cs : Array Value} {e' : TypeId} {fz : Nat × Nat} (h : Own F S e z n vs) (hq : F q = some (.cells cs e' fz)) (hne : e ≠ e') : blk S ≠ some q := by
  intro hbl
  rcases h.2 with ⟨h1, _⟩ | ⟨b, c, cs', h1, ⟨fz', hb, _⟩, _⟩
  · subst h1; cases hbl
  · subst h1
    obtain rfl : b = q := Option.some.inj hbl
    rw [hq] at hb
    injection hb with hb
    injection hb with h1 h2 h3
    exact hne h2.symm
/-- Numbers behind bytes. -/
def putAllM (m : Nat) (bs : List UInt8) (l : List Int) : List UInt8 := l.foldl (putM m) bs
theorem putAllM_len (m : Nat) : ∀ (l : List Int) (bs : List UInt8), (putAllM m bs l).length ≤ bs.length + m * l.length := by
  intro l
  induction l with
  | nil => intro bs; exact Nat.le_add_right _ _
  | cons n l ih =>
    intro bs
    have h1 := ih (putM m bs n)
    have h2 := putM_len m bs n
    show (putAllM m (putM m bs n) l).length ≤ _
    rw [List.length_cons, Nat.mul_add, Nat.mul_one]
    omega
theorem putAllM_take (m : Nat) (bs : List UInt8) (l : List Int) (j : Nat) (n : Int) (h : l[j]? = some n) : putAllM m bs (l.take (j + 1)) = putM m (putAllM m bs (l.take j)) n := by
  unfold putAllM
  rw [List.take_add_one, h, Option.toList_some, List.foldl_append]
  rfl
theorem putAllM_in {m : Nat} : ∀ {l : List Int} (bs : List UInt8), l.all (inM m) = true → putAllM m bs l = bs ++ l.flatMap (beM m) := by
  intro l
  induction l with
  | nil => intro bs _; show bs = bs ++ []; rw [List.append_nil]
  | cons n l ih =>
    intro bs h
    rw [List.all_cons, Bool.and_eq_true] at h
    show putAllM m (putM m bs n) l = _
    rw [ih _ h.2, List.flatMap_cons, ← List.append_assoc]
    unfold putM
    rw [h.1, cond_true]
end Go.Al
/- The logic of a known part of memory, 7b: a region that draws its order, told as a tree: where movers stand in no row, the tree parts. It holds for every program that follows mixed orders. -/
namespace Go.Al
open Go

/-- The orders in which a region is told. -/
inductive DT
  | nil
  | cons (i : Nat) (t : DT)
  | fork (l r : DT)
def DT.row : List Nat → DT → DT
  | [], t => t
  | i :: l, t => .cons i (DT.row l t)
def isPl (T : Tab) (op : Op) : Bool := !convB T op && (isVal op || (match op with | .build _ _ => true | _ => false))
def isSt (T : Tab) (op : Op) : Bool := isPl T op || (!convB T op && (match op with | .load _ _ => true | _ => false))
def stAt (T : Tab) (ops : Array Oper) (i : Nat) : Bool := match ops[i]? with | some o => isSt T o.op | none => false
def findH (M : List Nat) (i : Nat) : DT → Bool
  | .nil => false
  | .cons h _ => Nat.beq h i || bit M i h
  | .fork l r => findH M i l || findH M i r
def findT (T : Tab) (ops : Array Oper) (M : List Nat) (i : Nat) : DT → Bool
  | .nil => false
  | .cons h t => Nat.beq h i || bit M i h || (stAt T ops h && findT T ops M i t)
  | .fork l r => findH M i l || findH M i r
def nodeOk (T : Tab) (ops : Array Oper) (M : List Nat) (done : List Nat) (t : DT) : Bool := (List.range ops.size).all fun i => done.contains i || findT T ops M i t
def chkT (T : Tab) (ops : Array Oper) (M : List Nat) (lo done : List Nat) (i : Nat) : Bool :=
    (match ops[i]? with
    | none => false
    | some o =>
      (o.after.toList.all fun e => !Region.binds .any e || done.contains e.on) &&
      (!lo.contains i || isSt T o.op) &&
      ((List.range ops.size).all fun k => Nat.beq k i || (match ops[k]? with
        | some p => (match p.dst with
          | some t => (!(readsOf ops o).contains t || bit M i k || bit M k i) && (match o.dst with | some d => !Nat.beq d t | none => true)
          | none => true)
        | none => true)) &&
      (match o.op with | .select _ _ => false | _ => true)) &&
    !done.contains i
def checkT (T : Tab) (ops : Array Oper) (M : List Nat) (lo : List Nat) : DT → Bool → List Nat → Bool
  | .nil, _, done => (List.range ops.size).all fun i => done.contains i
  | .cons i t, b, done => (!b || nodeOk T ops M done (.cons i t)) && chkT T ops M lo done i && checkT T ops M lo t true (i :: done)
  | .fork l r, b, done => (!b || nodeOk T ops M done (.fork l r)) && checkT T ops M lo l false done && checkT T ops M lo r false done
def soloT (T : Tab) (ops : Array Oper) (M : List Nat) (lo done : List Nat) (i : Nat) : Bool := done.all fun j => (match ops[j]? with | some p => isPl T p.op || !isSt T p.op | none => true) || lo.contains j || bit M i j
/-- With a mark in lo (a number beyond the region): nothing is told by G any more behind this mover. -/
def offT (ops : Array Oper) (M : List Nat) (lo done : List Nat) (i : Nat) : Bool := (lo.any fun j => Nat.ble ops.size j) && lo.all fun j => Nat.ble ops.size j || (done.contains j && bit M i j)
def nextT (T : Tab) (ops : Array Oper) (M : List Nat) (lo : List Nat) (G : Heap) (i : Nat) (o : Oper) (ih : List Nat → Env → Heap → Prop) (done : List Nat) (env : Env) (F : Heap) (v : Value) (F' : Heap) : Prop :=
  bif isSt T o.op then ih (i :: done) (env.set o.dst v) F else (bif offT ops M lo done i then (bif soloT T ops M lo done i then ih (i :: done) (env.set o.dst v) F' else (Ext F F' ∧ ih (i :: done) (env.set o.dst v) F')) else (Ext G F' ∧ bif soloT T ops M lo done i then ih (i :: done) (env.set o.dst v) F' else (Ext F F' ∧ ih (i :: done) (env.set o.dst v) F')))
def stepBase (P : Program) (T : Tab) (lo : List Nat) (G : Heap) (i : Nat) (o : Oper) (ev : Operand → Value) (F : Heap) (K : Value → Heap → Prop) : Prop := bif lo.contains i then stepB P T o ev G K else stepB P T o ev F K
def baseT (lo : List Nat) (G : Heap) (i : Nat) (F : Heap) : Heap := bif lo.contains i then G else F
def treeStep (P : Program) (T : Tab) (ops : Array Oper) (M : List Nat) (lo : List Nat) (G : Heap) (i : Nat) (ih : List Nat → Env → Heap → Prop) (done : List Nat) (env : Env) (F : Heap) : Prop :=
    match ops[i]? with
    | none => False
    | some o =>
      match o.guard with
      | none => stepBase P T lo G i o env.ev F (nextT T ops M lo G i o ih done env F)
      | some (j, want) => match yieldedE ops env j with
        | some b => CondK (match want with | true => b | false => !b)
            (stepBase P T lo G i o (guardE ops j want env).ev F (nextT T ops M lo G i o ih done (guardE ops j want env) F))
            (ih (i :: done) ((guardE ops j (!want) env).set o.dst undef) F)
        | none => ih (i :: done) (env.set o.dst undef) F
def treeGo (P : Program) (T : Tab) (ops : Array Oper) (M : List Nat) (lo : List Nat) (G : Heap) (K : Env → Heap → Prop) (t : DT) : List Nat → Env → Heap → Prop :=
  DT.rec (motive := fun _ => List Nat → Env → Heap → Prop) (fun _ => K) (fun i _ ih => treeStep P T ops M lo G i ih) (fun _ _ l r done env F => l done env F ∧ r done env F) t
theorem treeGo_eq {P : Program} {T : Tab} {ops : Array Oper} {M lo : List Nat} {G : Heap} {K : Env → Heap → Prop} {done : List Nat} {t : DT} {i : Nat} {env : Env} {F : Heap} : treeGo P T ops M lo G K (.cons i t) done env F = treeStep P T ops M lo G i (treeGo P T ops M lo G K t) done env F := rfl

theorem buildK_val {T : Tab} {t : TypeId} {parts : List (Nat × Value)} {K : Value → Prop} (h : buildK T t parts K) : ∃ v, K v ∧ ∀ K' : Value → Prop, K' v → buildK T t parts K' := by
  revert h
  unfold buildK
  cases T t with
  | none => exact fun h => h.elim
  | some d =>
    dsimp only
    cases zcells d with
    | none => exact fun h => h.elim
    | some z =>
      dsimp only
      cases d.desc with
      | struct fs =>
        dsimp only
        cases allT T fs.toList with
        | false => exact fun h => h.elim
        | true =>
          rw [cond_true]
          cases fillL (placesK T fs.toList) z parts with
          | none => exact fun h => h.elim
          | some cs => exact fun h => ⟨_, h, fun K' h => h⟩
      | array n e =>
        dsimp only
        cases hasT T e with
        | false => exact fun h => h.elim
        | true =>
          rw [cond_true]
          cases fillL (fun i => some (i * sizeK T e, sizeK T e)) z parts with
          | none => exact fun h => h.elim
          | some cs => exact fun h => ⟨_, h, fun K' h => h⟩
      | _ => exact fun h => h.elim
/-- What moves nothing. -/
theorem step_st {P : Program} {T : Tab} (hT : TabOk P T) {o : Oper} (hs : isSt T o.op = true) {ev : Operand → Value} {F : Heap} {K : Value → Heap → Prop} (h : stepB P T o ev F K) :
    ∃ v, K v F ∧ (∀ F', Ext F F' → opW P o ev F' (fun u F'' => u = v ∧ F'' = F')) ∧ (isPl T o.op = true → ∀ F', opW P o ev F' (fun u F'' => u = v ∧ F'' = F')) := by
  have hcv : convB T o.op = false := by
    cases e : convB T o.op with
    | false => rfl
    | true => unfold isSt isPl at hs; rw [e] at hs; cases hs
  have h : stepK P T o ev F K := by unfold stepB at h; rw [hcv, cond_false] at h; exact h
  have hs : ((isVal o.op || (match o.op with | .build _ _ => true | _ => false)) || (match o.op with | .load _ _ => true | _ => false)) = true := by
    unfold isSt isPl at hs; rw [hcv, Bool.not_false, Bool.true_and, Bool.true_and] at hs; exact hs
  cases hp : isStill o.op with
  | true =>
    obtain ⟨v, h1, h2, h3⟩ := step_still hT hp h
    refine ⟨v, h1, h2, fun e => h3 ?_⟩
    cases hv : isVal o.op with
    | true => rfl
    | false =>
      unfold isPl at e
      rw [hcv, Bool.not_false, Bool.true_and, hv, Bool.false_or] at e
      have hp : (isVal o.op || (match o.op with | .load _ _ => true | _ => false)) = true := hp
      rw [hv, Bool.false_or] at hp
      split at e
      · next ho => rw [ho] at hp; cases hp
      · cases e
  | false =>
    obtain ⟨hv, hl⟩ := Bool.or_eq_false_iff.1 (show (isVal o.op || _) = false from hp)
    simp only [Bool.or_eq_true] at hs
    have hs := hs.elim (fun h => h.elim (fun h => (by rw [hv] at h; cases h)) id) (fun h => by split at h <;> first | (cases h; done) | (rename_i ho; rw [ho] at hl; cases hl))
    split at hs
    · next t parts ho =>
      unfold stepK at h
      rw [hv, cond_false] at h
      unfold memK at h
      rw [ho] at h
      dsimp only at h
      obtain ⟨v, hk, hb⟩ := buildK_val h
      have key : ∀ F', opW P o ev F' (fun u F'' => u = v ∧ F'' = F') := fun F' => by
        refine opW_v (s := Instr.build t (parts.map fun (i, x) => (i, ev x))) (by simp only [execOp, ho]) ?_
        have hl : (parts.map fun (i, x) => (i, ev x)).toList = parts.toList.map fun p => (p.1, ev p.2) := by simp
        exact buildK_sound (K := fun u F'' => u = v ∧ F'' = F') hT (by rw [hl]; exact hb _ ⟨rfl, rfl⟩)
      exact ⟨v, hk, fun F' _ => key F', fun _ F' => key F'⟩
    · cases hs

theorem treeGo_cons {P : Program} {T : Tab} (hT : TabOk P T) {ops : Array Oper} {M lo : List Nat} {G : Heap} {K : Env → Heap → Prop} {done : List Nat} {t : DT} {i : Nat} {o : Oper} {E : Env} {F : Heap} (ho : ops[i]? = some o) (hlo : lo.contains i = true → isSt T o.op = true) (h : treeGo P T ops M lo G K (.cons i t) done E F) :
    (wantedE ops E o = false ∧ treeGo P T ops M lo G K t (i :: done) (E.set o.dst undef) F) ∨
    (wantedE ops E o = true ∧ isSt T o.op = true ∧ ∃ x, (∀ F', Ext (baseT lo G i F) F' → opW P o E.ev F' (fun u F'' => u = x ∧ F'' = F')) ∧ (isPl T o.op = true → ∀ F', opW P o E.ev F' (fun u F'' => u = x ∧ F'' = F')) ∧ treeGo P T ops M lo G K t (i :: done) (E.set o.dst x) F) ∨
    (wantedE ops E o = true ∧ isSt T o.op = false ∧ opW P o E.ev F (fun x F' => (offT ops M lo done i = true ∨ Ext G F') ∧ (soloT T ops M lo done i = true ∨ Ext F F') ∧ treeGo P T ops M lo G K t (i :: done) (E.set o.dst x) F')) := by
  have run : ∀ (_ : wantedE ops E o = true), stepBase P T lo G i o E.ev F (nextT T ops M lo G i o (treeGo P T ops M lo G K t) done E F) →
      (wantedE ops E o = true ∧ isSt T o.op = true ∧ ∃ x, (∀ F', Ext (baseT lo G i F) F' → opW P o E.ev F' (fun u F'' => u = x ∧ F'' = F')) ∧ (isPl T o.op = true → ∀ F', opW P o E.ev F' (fun u F'' => u = x ∧ F'' = F')) ∧ treeGo P T ops M lo G K t (i :: done) (E.set o.dst x) F) ∨
      (wantedE ops E o = true ∧ isSt T o.op = false ∧ opW P o E.ev F (fun x F' => (offT ops M lo done i = true ∨ Ext G F') ∧ (soloT T ops M lo done i = true ∨ Ext F F') ∧ treeGo P T ops M lo G K t (i :: done) (E.set o.dst x) F')) := by
    intro hw hs
    have hs : stepB P T o E.ev (baseT lo G i F) (nextT T ops M lo G i o (treeGo P T ops M lo G K t) done E F) := by
      unfold stepBase at hs
      unfold baseT
      cases e : lo.contains i with
      | true => rw [e, cond_true] at hs; exact hs
      | false => rw [e, cond_false] at hs; exact hs
    cases hst : isSt T o.op with
    | true =>
      obtain ⟨x, h1, h2, h3⟩ := step_st hT hst hs
      unfold nextT at h1
      rw [hst, cond_true] at h1
      exact .inl ⟨hw, rfl, x, h2, h3, h1⟩
    | false =>
      have hb : baseT lo G i F = F := by
        unfold baseT
        cases e : lo.contains i with
        | false => rfl
        | true => rw [hlo e] at hst; cases hst
      rw [hb] at hs
      refine .inr ⟨hw, rfl, opW_mono (stepB_sound hT hs) fun v F' hv => ?_⟩
      unfold nextT at hv
      rw [hst, cond_false] at hv
      have hv2 : (offT ops M lo done i = true ∨ Ext G F') ∧ (bif soloT T ops M lo done i then treeGo P T ops M lo G K t (i :: done) (E.set o.dst v) F' else (Ext F F' ∧ treeGo P T ops M lo G K t (i :: done) (E.set o.dst v) F')) := by
        cases hof : offT ops M lo done i with
        | true => rw [hof, cond_true] at hv; exact ⟨.inl rfl, hv⟩
        | false => rw [hof, cond_false] at hv; exact ⟨.inr hv.1, hv.2⟩
      refine ⟨hv2.1, ?_⟩
      have hv := hv2.2
      cases hso : soloT T ops M lo done i with
      | true => rw [hso, cond_true] at hv; exact ⟨.inl rfl, hv⟩
      | false => rw [hso, cond_false] at hv; exact ⟨.inr hv.1, hv.2⟩
  rw [treeGo_eq] at h
  unfold treeStep at h
  rw [ho] at h
  dsimp only at h
  cases hg : o.guard with
  | none =>
    rw [hg] at h
    exact .inr (run (by simp [wantedE, hg]) h)
  | some p =>
    obtain ⟨j, want⟩ := p
    rw [hg] at h
    dsimp only at h
    cases hy : yieldedE ops E j with
    | none =>
      rw [hy] at h
      exact .inl ⟨by simp [wantedE, hg, hy], h⟩
    | some b =>
      rw [hy] at h
      dsimp only at h
      by_cases hb : b = want
      · subst hb
        have h := h.yes (by cases b <;> rfl)
        rw [guardE_eq hy] at h
        exact .inr (run (by simp [wantedE, hg, hy]) h)
      · have hb' : b = !want := by cases b <;> cases want <;> simp_all
        subst hb'
        have h := h.no (by cases want <;> rfl)
        rw [guardE_eq hy] at h
        exact .inl ⟨by simp [wantedE, hg, hy], h⟩
/-- What the check says of one operation. -/
structure ChkT (T : Tab) (ops : Array Oper) (M : List Nat) (lo done : List Nat) (i : Nat) (o : Oper) : Prop where
  get : ops[i]? = some o
  ahead : ∀ e ∈ o.after, Region.binds .any e = true → e.on ∈ done
  low : lo.contains i = true → isSt T o.op = true
  apart : ∀ k p t, ops[k]? = some p → k ≠ i → p.dst = some t → (t ∈ o.looksAt ops → bit M i k = true ∨ bit M k i = true) ∧ (∀ d, o.dst = some d → d ≠ t)
  plain : ∀ cs b, o.op ≠ .select cs b
  new : i ∉ done
theorem chkT_out {T : Tab} {ops : Array Oper} {M lo done : List Nat} {i : Nat} (h : chkT T ops M lo done i = true) : ∃ o, ChkT T ops M lo done i o := by
  unfold chkT at h
  rw [Bool.and_eq_true] at h
  obtain ⟨h, hn⟩ := h
  cases ho : ops[i]? with
  | none => rw [ho] at h; cases h
  | some o =>
    rw [ho] at h
    simp only [Bool.and_eq_true, List.all_eq_true] at h
    obtain ⟨⟨⟨h1, h2⟩, h3⟩, h4⟩ := h
    refine ⟨o, ho, fun e he hb => ?_, fun hl => ?_, fun k p t hp hk ht => ?_, fun cs b e => ?_, by simpa using hn⟩
    · have := h1 e (by simpa using he)
      rw [hb] at this
      simpa using this
    · rw [hl] at h2; simpa using h2
    · have hlt : k < ops.size := (Array.getElem?_eq_some_iff.1 hp).1
      have := h3 k (by simpa using hlt)
      rw [beq_ne hk, Bool.false_or, hp] at this
      dsimp only at this
      rw [ht] at this
      simp only [Bool.and_eq_true, Bool.or_eq_true] at this
      obtain ⟨g1, g2⟩ := this
      refine ⟨fun hm => ?_, fun d hd => ?_⟩
      · rcases g1 with (g | g) | g
        · simp [readsOf, hm] at g
        · exact .inl g
        · exact .inr g
      · rw [hd] at g2
        intro e
        subst e
        simp [Nat.beq_refl] at g2
    · rw [e] at h4; cases h4
theorem checkT_cons {T : Tab} {ops : Array Oper} {M lo : List Nat} {i : Nat} {t : DT} {b : Bool} {done : List Nat} (h : checkT T ops M lo (.cons i t) b done = true) : (∃ o, ChkT T ops M lo done i o) ∧ checkT T ops M lo t true (i :: done) = true := by
  simp only [checkT, Bool.and_eq_true] at h
  exact ⟨chkT_out h.1.2, h.2⟩
theorem checkT_node {T : Tab} {ops : Array Oper} {M lo : List Nat} {t : DT} {done : List Nat} (h : checkT T ops M lo t true done = true) {i : Nat} (hi : i < ops.size) (hn : i ∉ done) : findT T ops M i t = true := by
  have key : nodeOk T ops M done t = true → findT T ops M i t = true := fun h => by
    unfold nodeOk at h
    have := List.all_eq_true.1 h i (by simpa using hi)
    rcases (Bool.or_eq_true_iff.1 this) with h1 | h1
    · exact absurd (by simpa using h1) hn
    · exact h1
  cases t with
  | nil =>
    simp only [checkT] at h
    have := List.all_eq_true.1 h i (by simpa using hi)
    exact absurd (by simpa using this) hn
  | cons j t => simp only [checkT, Bool.and_eq_true, Bool.not_true, Bool.false_or] at h; exact key h.1.1
  | fork l r => simp only [checkT, Bool.and_eq_true, Bool.not_true, Bool.false_or] at h; exact key h.1.1

/-- An operation that is told and not yet done. -/
structure PendT (P : Program) (T : Tab) (ops : Array Oper) (lo : List Nat) (G : Heap) (env0 : Env) (done : List Nat) (v : Nat → Value) (F : Heap) (i : Nat) (o : Oper) (D : Nat → Bool) : Prop where
  get : ops[i]? = some o
  still : isSt T o.op = true
  plain : ∀ cs b, o.op ≠ .select cs b
  apart : ∀ k p t, ops[k]? = some p → k ≠ i → p.dst = some t → t ∈ o.looksAt ops → bit (maskGo ops.toList []) i k = true ∨ bit (maskGo ops.toList []) k i = true
  uniq : ∀ k p t, ops[k]? = some p → k ≠ i → p.dst = some t → ∀ d, o.dst = some d → d ≠ t
  anc : ∀ k, bit (maskGo ops.toList []) i k = true → D k = true
  des : ∀ k, D k = true → bit (maskGo ops.toList []) k i = false
  self : D i = false
  sub : ∀ k, D k = true → k ∈ done
  skip : wantedE ops (WV ops env0 D v) o = false → v i = undef
  run : wantedE ops (WV ops env0 D v) o = true → ∀ F', Ext (baseT lo G i F) F' → opW P o (WV ops env0 D v).ev F' (fun u F'' => u = v i ∧ F'' = F')
  pure : wantedE ops (WV ops env0 D v) o = true → isPl T o.op = true → ∀ F', opW P o (WV ops env0 D v).ev F' (fun u F'' => u = v i ∧ F'' = F')
/-- Told and done, side by side. -/
structure InvT (P : Program) (T : Tab) (ops : Array Oper) (lo : List Nat) (G : Heap) (K : Env → Heap → Prop) (env0 : Env) (m0 : Bool) (n : Nat) (w0 : World) (L : Nat → Bool) (a : Act) (w : World) (b : Bool) (done : List Nat) (rest : DT) (v : Nat → Value) (F : Heap) : Prop where
  check : checkT T ops (maskGo ops.toList []) lo rest b done = true
  got : ∀ i ∈ done, ∃ o, ops[i]? = some o
  closed : Closed ops (fun k => done.contains k)
  sub : ∀ i, L i = true → i ∈ done
  lclosed : Closed ops L
  size : a.tmps.size = n
  held : Held m0 w0.heap.size a.defers w
  val : ∀ t, a.tmps.getD t undef = WV ops env0 L v t
  told : treeGo P T ops (maskGo ops.toList []) lo G K rest done (WV ops env0 (fun k => done.contains k) v) F
  has : Has F w
  floor : (∀ j, lo.contains j = true → j < ops.size → L j = true) ∨ Ext G F
  rst : Rest w0 w
  pend : ∀ i ∈ done, L i = false → ∃ o D, PendT P T ops lo G env0 done v F i o D
theorem InvT.ag {P : Program} {T : Tab} {ops : Array Oper} {lo : List Nat} {G : Heap} {K : Env → Heap → Prop} {env0 : Env} {m0 : Bool} {n : Nat} {w0 : World} {L : Nat → Bool} {a : Act} {w : World} {b : Bool} {done : List Nat} {rest : DT} {v : Nat → Value} {F : Heap} (h : InvT P T ops lo G K env0 m0 n w0 L a w b done rest v F) : Ag n (WV ops env0 L v) a := ⟨h.size, h.val⟩
theorem floor_up {lo : List Nat} {n i : Nat} {L L' : Nat → Bool} {G F : Heap} (h : (∀ j, lo.contains j = true → j < n → L j = true) ∨ Ext G F) (hL : ∀ k, k ≠ i → L' k = L k) (hLi : L' i = true) : (∀ j, lo.contains j = true → j < n → L' j = true) ∨ Ext G F := by
  rcases h with h | h
  · refine .inl fun j h1 h2 => ?_
    by_cases e : j = i
    · rw [e]; exact hLi
    · rw [hL j e]; exact h j h1 h2
  · exact .inr h
theorem base_ext' {lo : List Nat} {G F F' : Heap} {i : Nat} (hg : lo.contains i = true → Ext G F') (hf : lo.contains i = false → Ext F F') : Ext (baseT lo G i F) F' := by
  unfold baseT
  cases e : lo.contains i with
  | true => exact hg e
  | false => exact hf e
theorem base_ext {lo : List Nat} {G F F' : Heap} {i : Nat} (hg : Ext G F') (hf : lo.contains i = false → Ext F F') : Ext (baseT lo G i F) F' := by
  unfold baseT
  cases e : lo.contains i with
  | true => exact hg
  | false => exact hf e
/-- One more is told that moves nothing, or that isn't wanted: it is done later. -/
theorem InvT.push {P : Program} {T : Tab} {ops : Array Oper} {lo : List Nat} {G : Heap} {K : Env → Heap → Prop} {env0 : Env} {m0 : Bool} {n : Nat} {w0 : World} {L : Nat → Bool} {a : Act} {w : World} {b : Bool} {done : List Nat} {rest : DT} {v : Nat → Value} {F : Heap} {i : Nat} {o : Oper} (h : InvT P T ops lo G K env0 m0 n w0 L a w b done (.cons i rest) v F)
    (hc : ChkT T ops (maskGo ops.toList []) lo done i o) (hst : isSt T o.op = true) (x : Value)
    (hskip : wantedE ops (WV ops env0 (fun k => done.contains k) v) o = false → x = undef)
    (hrun : wantedE ops (WV ops env0 (fun k => done.contains k) v) o = true → (∀ F', Ext (baseT lo G i F) F' → opW P o (WV ops env0 (fun k => done.contains k) v).ev F' (fun u F'' => u = x ∧ F'' = F')) ∧ (isPl T o.op = true → ∀ F', opW P o (WV ops env0 (fun k => done.contains k) v).ev F' (fun u F'' => u = x ∧ F'' = F')))
    (ht : treeGo P T ops (maskGo ops.toList []) lo G K rest (i :: done) ((WV ops env0 (fun k => done.contains k) v).set o.dst x) F) :
    InvT P T ops lo G K env0 m0 n w0 L a w true (i :: done) rest (fun k => if k = i then x else v k) F := by
  have hLi : L i = false := by
    cases hL : L i with
    | false => rfl
    | true => exact absurd (h.sub i hL) hc.new
  have hvv : ∀ k, k ≠ i → (fun k => if k = i then x else v k) k = v k := fun k hk => by simp [hk]
  have hDi : (fun k => done.contains k) i = false := by simpa using hc.new
  refine ⟨(checkT_cons h.check).2, fun k hk => ?_, fun k p hp hk e he hb => ?_, fun k hk => List.mem_cons_of_mem _ (h.sub k hk), h.lclosed, h.size, h.held, fun t => ?_, ?_, h.has, h.floor, h.rst, fun k hk hL => ?_⟩
  · rcases List.mem_cons.1 hk with rfl | hk
    · exact ⟨o, hc.get⟩
    · exact h.got k hk
  · have hk : k ∈ i :: done := by simpa using hk
    have : e.on ∈ i :: done := by
      rcases List.mem_cons.1 hk with rfl | hk
      · rw [hc.get] at hp; obtain rfl := Option.some.inj hp
        exact List.mem_cons_of_mem _ (hc.ahead e he hb)
      · have := h.closed k p hp (by simpa using hk) e he hb
        exact List.mem_cons_of_mem _ (by simpa using this)
    simpa using this
  · rw [h.val t, WV_new hLi hvv]
  · have := WV_set (v' := fun k => if k = i then x else v k) hc.get (fun k p t hp hk ht => (hc.apart k p t hp hk ht).2) (env0 := env0) (S := fun k => done.contains k) (S' := fun k => (i :: done).contains k) (v := v) (fun k hk => by simp [hk]) (by simp) hvv
    simp only [if_true] at this
    rw [← this]
    exact ht
  · rcases List.mem_cons.1 hk with rfl | hk
    · refine ⟨o, fun k => done.contains k, hc.get, hst, hc.plain, fun k' p t hp hk' hpt ht' => (hc.apart k' p t hp hk' hpt).1 ht', fun k' p t hp hk' hpt => (hc.apart k' p t hp hk' hpt).2, fun k' hk' => ?_, fun k' hk' => ?_, hDi, fun k' hk' => List.mem_cons_of_mem _ (by simpa using hk'), ?_, ?_, ?_⟩
      · exact mask_sound hk' h.closed (fun p hp e he hb => by rw [hc.get] at hp; obtain rfl := Option.some.inj hp; simpa using hc.ahead e he hb)
      · cases hb : bit (maskGo ops.toList []) k' k with
        | false => rfl
        | true =>
          have := mask_sound hb h.closed (fun p hp e he hb => h.closed k' p hp hk' e he hb)
          exact absurd (this.symm.trans hDi) (by decide)
      · rw [WV_new hDi hvv]; intro hw; simp [hskip hw]
      · rw [WV_new hDi hvv]; intro hw F' hF; exact opW_mono ((hrun hw).1 F' hF) fun u F'' ⟨e1, e2⟩ => ⟨e1.trans (if_pos rfl).symm, e2⟩
      · rw [WV_new hDi hvv]; intro hw hV F'; exact opW_mono ((hrun hw).2 hV F') fun u F'' ⟨e1, e2⟩ => ⟨e1.trans (if_pos rfl).symm, e2⟩
    · obtain ⟨p, D, hp⟩ := h.pend k hk hL
      have hki : k ≠ i := fun e => hc.new (e ▸ hk)
      have hDi' : D i = false := by
        cases hD : D i with
        | false => rfl
        | true => exact absurd (hp.sub i hD) hc.new
      refine ⟨p, D, hp.get, hp.still, hp.plain, hp.apart, hp.uniq, hp.anc, hp.des, hp.self, fun k' hk' => List.mem_cons_of_mem _ (hp.sub k' hk'), ?_, ?_, ?_⟩
      · rw [WV_new hDi' hvv]; intro hw; simp only [hki, if_false]; exact hp.skip hw
      · rw [WV_new hDi' hvv]; intro hw F' hF; simp only [hki, if_false]; exact hp.run hw F' hF
      · rw [WV_new hDi' hvv]; intro hw hV F'; simp only [hki, if_false]; exact hp.pure hw hV F'
/-- What is ready, and not yet told, is told next. -/
theorem InvT.head {P : Program} {T : Tab} {ops : Array Oper} {lo : List Nat} {G : Heap} {K : Env → Heap → Prop} {env0 : Env} {m0 : Bool} {n : Nat} {w0 : World} {L : Nat → Bool} {a : Act} {w : World} {b : Bool} {done : List Nat} {rest : DT} {v : Nat → Value} {F : Heap} {i : Nat} (hi : Ahead ops L i) (h : InvT P T ops lo G K env0 m0 n w0 L a w b done rest v F) (hf : findH (maskGo ops.toList []) i rest = true) :
    ∃ rest', InvT P T ops lo G K env0 m0 n w0 L a w false done (.cons i rest') v F := by
  induction rest generalizing b with
  | nil => cases hf
  | cons j t _ =>
    simp only [findH, Bool.or_eq_true] at hf
    obtain ⟨⟨o, hc⟩, _⟩ := checkT_cons h.check
    rcases hf with hf | hf
    · obtain rfl := Nat.eq_of_beq_eq_true hf
      refine ⟨t, ?_, h.got, h.closed, h.sub, h.lclosed, h.size, h.held, h.val, h.told, h.has, h.floor, h.rst, h.pend⟩
      have := h.check
      simp only [checkT, Bool.and_eq_true] at this ⊢
      exact ⟨⟨rfl, this.1.2⟩, this.2⟩
    · exact absurd (h.sub j (mask_sound hf h.lclosed hi)) hc.new
  | fork l r ihl ihr =>
    simp only [findH, Bool.or_eq_true] at hf
    have hck := h.check
    simp only [checkT, Bool.and_eq_true] at hck
    have go : ∀ (t : DT), checkT T ops (maskGo ops.toList []) lo t false done = true → treeGo P T ops (maskGo ops.toList []) lo G K t done (WV ops env0 (fun k => done.contains k) v) F → InvT P T ops lo G K env0 m0 n w0 L a w false done t v F :=
      fun t h1 h2 => ⟨h1, h.got, h.closed, h.sub, h.lclosed, h.size, h.held, h.val, h2, h.has, h.floor, h.rst, h.pend⟩
    rcases hf with hf | hf
    · exact ihl (go l hck.1.2 h.told.1) hf
    · exact ihr (go r hck.2 h.told.2) hf
theorem InvT.reach {P : Program} {T : Tab} (hT : TabOk P T) {ops : Array Oper} {lo : List Nat} {G : Heap} {K : Env → Heap → Prop} {env0 : Env} {m0 : Bool} {n : Nat} {w0 : World} {L : Nat → Bool} {a : Act} {w : World} {i : Nat} (hi : Ahead ops L i) (hlt : i < ops.size) : ∀ (rest : DT) {done : List Nat} {v : Nat → Value} {F : Heap}, InvT P T ops lo G K env0 m0 n w0 L a w true done rest v F → i ∉ done →
    ∃ b' done' rest' v', InvT P T ops lo G K env0 m0 n w0 L a w b' done' (.cons i rest') v' F := by
  intro rest
  induction rest with
  | nil => intro done v F h hn; have := checkT_node h.check hlt hn; cases this
  | cons j t ih =>
    intro done v F h hn
    have hf := checkT_node h.check hlt hn
    by_cases he : j = i
    · subst he; exact ⟨true, done, t, v, h⟩
    · obtain ⟨⟨o, hc⟩, hr⟩ := checkT_cons h.check
      simp only [findT, Bool.or_eq_true, beq_ne he, Bool.false_eq_true, false_or, Bool.and_eq_true] at hf
      rcases hf with hf | ⟨hst, _⟩
      · exact absurd (h.sub j (mask_sound hf h.lclosed hi)) hc.new
      · have hst : isSt T o.op = true := by unfold stAt at hst; rw [hc.get] at hst; exact hst
        have hn' : i ∉ j :: done := by
          intro hm
          rcases List.mem_cons.1 hm with rfl | hm
          · exact he rfl
          · exact hn hm
        rcases treeGo_cons hT hc.get hc.low h.told with ⟨hw, ht⟩ | ⟨hw, _, x, h1, h2, ht⟩ | ⟨_, hs, _⟩
        · exact ih (h.push hc hst undef (fun _ => rfl) (fun e => by rw [hw] at e; cases e) ht) hn'
        · exact ih (h.push hc hst x (fun e => by rw [hw] at e; cases e) (fun _ => ⟨h1, h2⟩) ht) hn'
        · rw [hst] at hs; cases hs
  | fork l r _ _ =>
    intro done v F h hn
    have hf := checkT_node h.check hlt hn
    obtain ⟨rest', h'⟩ := h.head hi (show findH (maskGo ops.toList []) i (.fork l r) = true from hf)
    exact ⟨false, done, rest', v, h'⟩
/-- All that is ready is done: all is done. -/
theorem all_doneT {T : Tab} {ops : Array Oper} {M lo : List Nat} {listed : Array Bool} (hsz : listed.size = ops.size) (h : Region.ready .any ops listed = []) : ∀ (t : DT) (b : Bool) (done : List Nat), checkT T ops M lo t b done = true → (∀ i ∈ done, listed.getD i false = true) → ∀ i, i < ops.size → listed.getD i false = true := by
  intro t
  induction t with
  | nil =>
    intro b done hc hd i hi
    simp only [checkT] at hc
    have := List.all_eq_true.1 hc i (by simpa using hi)
    exact hd i (by simpa using this)
  | cons x t ih =>
    intro b done hc hd i hi
    obtain ⟨⟨o, hk⟩, hr⟩ := checkT_cons hc
    have hx : listed.getD x false = true := by
      cases hl : listed.getD x false with
      | true => rfl
      | false =>
        refine (not_ready h hk.get ?_ (fun e he hb => hd _ (hk.ahead e he hb))).elim
        have hlt : x < listed.size := by rw [hsz]; exact (Array.getElem?_eq_some_iff.1 hk.get).1
        simpa [Array.getD_eq_getD_getElem?, hlt] using hl
    refine ih true (x :: done) hr (fun k hk' => ?_) i hi
    rcases List.mem_cons.1 hk' with rfl | hk'
    · exact hx
    · exact hd k hk'
  | fork l r ihl _ =>
    intro b done hc hd i hi
    simp only [checkT, Bool.and_eq_true] at hc
    exact ihl false done hc.1.2 hd i hi
/-- What is told and pending is done. -/
theorem InvT.exec {P : Program} {T : Tab} {ops : Array Oper} {lo : List Nat} {G : Heap} {b : Bool} {K : Env → Heap → Prop} {env0 : Env} {m0 : Bool} {n : Nat} {w0 : World} {L L' : Nat → Bool} {a : Act} {w w' : World} {done : List Nat} {rest : DT} {v : Nat → Value} {F : Heap} {i : Nat} {o : Oper} {D : Nat → Bool} (h : InvT P T ops lo G K env0 m0 n w0 L a w b done rest v F)
    (hi : i ∈ done) (hp : PendT P T ops lo G env0 done v F i o D) (ha : Ahead ops L i) (hd : dstOk n o = true) (hL : ∀ k, k ≠ i → L' k = L k) (hLi : L' i = true) (hw : Has F w') (hrw : Rest w w') : InvT P T ops lo G K env0 m0 n w0 L' (a.put o.dst (v i)) w' b done rest v F := by
  have hag := h.ag.put hd (v i)
  have hr := h.rst.trans hrw
  have hh := h.held.mono hrw
  have hL1 : ∀ k, L k = true → L' k = true := fun k hk => by
    by_cases e : k = i
    · rw [e]; exact hLi
    · rw [hL k e]; exact hk
  have hL2 : ∀ k, L' k = true → k = i ∨ L k = true := fun k hk => by
    by_cases e : k = i
    · exact .inl e
    · rw [hL k e] at hk; exact .inr hk
  refine ⟨h.check, h.got, h.closed, fun k hk => ?_, fun k p hp' hk e he hb => ?_, hag.size, by rw [put_defers]; exact hh, fun t => ?_, h.told, hw, floor_up h.floor hL hLi, hr, fun k hk hLk => ?_⟩
  · rcases hL2 k hk with rfl | hk
    · exact hi
    · exact h.sub k hk
  · rcases hL2 k hk with rfl | hk
    · exact hL1 _ (ha p hp' e he hb)
    · exact hL1 _ (h.lclosed k p hp' hk e he hb)
  · rw [hag.tmp t, WV_set (v' := v) hp.get hp.uniq hL hLi (fun _ _ => rfl)]
  · refine h.pend k hk ?_
    cases e : L k with
    | false => rfl
    | true => rw [hL1 k e] at hLk; cases hLk
theorem InvT.move {P : Program} {T : Tab} {ops : Array Oper} {lo : List Nat} {G : Heap} {b : Bool} {K : Env → Heap → Prop} {env0 : Env} {m0 : Bool} {n : Nat} {w0 : World} {L L' : Nat → Bool} {a : Act} {w w' : World} {done : List Nat} {rest : DT} {v : Nat → Value} {F F' : Heap} {i : Nat} {o : Oper} (h : InvT P T ops lo G K env0 m0 n w0 L a w b done (.cons i rest) v F)
    (hc : ChkT T ops (maskGo ops.toList []) lo done i o) (ha : Ahead ops L i) (hd : dstOk n o = true) (hL : ∀ k, k ≠ i → L' k = L k) (hLi : L' i = true) (x : Value) (hw : Has F' w') (hrw : Rest w w')
    (ht : treeGo P T ops (maskGo ops.toList []) lo G K rest (i :: done) ((WV ops env0 (fun k => done.contains k) v).set o.dst x) F') (hfl : (∀ j, lo.contains j = true → j < ops.size → L' j = true) ∨ Ext G F')
    (hkeep : (∀ k ∈ done, L k = false → ∀ p, ops[k]? = some p → isSt T p.op = true → isPl T p.op = true ∨ lo.contains k = true) ∨ Ext F F') :
    InvT P T ops lo G K env0 m0 n w0 L' (a.put o.dst x) w' true (i :: done) rest (fun k => if k = i then x else v k) F' := by
  have hag := h.ag.put hd x
  have hr := h.rst.trans hrw
  have hh := h.held.mono hrw
  have hL0 : L i = false := by
    cases e : L i with
    | false => rfl
    | true => exact absurd (h.sub i e) hc.new
  have hvv : ∀ k, k ≠ i → (fun k => if k = i then x else v k) k = v k := fun k hk => by simp [hk]
  have huniq : ∀ k p t, ops[k]? = some p → k ≠ i → p.dst = some t → ∀ d, o.dst = some d → d ≠ t := fun k p t hp hk ht => (hc.apart k p t hp hk ht).2
  have hL1 : ∀ k, L k = true → L' k = true := fun k hk => by
    by_cases e : k = i
    · rw [e]; exact hLi
    · rw [hL k e]; exact hk
  have hL2 : ∀ k, L' k = true → k = i ∨ L k = true := fun k hk => by
    by_cases e : k = i
    · exact .inl e
    · rw [hL k e] at hk; exact .inr hk
  refine ⟨(checkT_cons h.check).2, fun k hk => ?_, fun k p hp hk e he hb => ?_, fun k hk => ?_, fun k p hp' hk e he hb => ?_, hag.size, by rw [put_defers]; exact hh, fun t => ?_, ?_, hw, hfl, hr, fun k hk hLk => ?_⟩
  · rcases List.mem_cons.1 hk with rfl | hk
    · exact ⟨o, hc.get⟩
    · exact h.got k hk
  · have hk : k ∈ i :: done := by simpa using hk
    have : e.on ∈ i :: done := by
      rcases List.mem_cons.1 hk with rfl | hk
      · rw [hc.get] at hp; obtain rfl := Option.some.inj hp
        exact List.mem_cons_of_mem _ (hc.ahead e he hb)
      · have := h.closed k p hp (by simpa using hk) e he hb
        exact List.mem_cons_of_mem _ (by simpa using this)
    simpa using this
  · rcases hL2 k hk with rfl | hk
    · simp
    · exact List.mem_cons_of_mem _ (h.sub k hk)
  · rcases hL2 k hk with rfl | hk
    · exact hL1 _ (ha p hp' e he hb)
    · exact hL1 _ (h.lclosed k p hp' hk e he hb)
  · have := WV_set (v' := fun k => if k = i then x else v k) hc.get huniq (env0 := env0) (S := L) (S' := L') (v := v) hL hLi hvv
    simp only [if_true] at this
    rw [hag.tmp t, this]
  · have := WV_set (v' := fun k => if k = i then x else v k) hc.get huniq (env0 := env0) (S := fun k => done.contains k) (S' := fun k => (i :: done).contains k) (v := v) (fun k hk => by simp [hk]) (by simp) hvv
    simp only [if_true] at this
    rw [← this]
    exact ht
  · have hki : k ≠ i := by rintro rfl; rw [hLi] at hLk; cases hLk
    have hk : k ∈ done := by
      rcases List.mem_cons.1 hk with rfl | hk
      · exact absurd rfl hki
      · exact hk
    rw [hL k hki] at hLk
    obtain ⟨p, D, hp⟩ := h.pend k hk hLk
    have hDi' : D i = false := by
      cases hD : D i with
      | false => rfl
      | true => exact absurd (hp.sub i hD) hc.new
    refine ⟨p, D, hp.get, hp.still, hp.plain, hp.apart, hp.uniq, hp.anc, hp.des, hp.self, fun k' hk' => List.mem_cons_of_mem _ (hp.sub k' hk'), ?_, ?_, ?_⟩
    · rw [WV_new hDi' hvv]; intro hw; simp only [hki, if_false]; exact hp.skip hw
    · rw [WV_new hDi' hvv]
      intro hw H hG
      simp only [hki, if_false]
      rcases hkeep with hv | hF
      · rcases hv k hk hLk p hp.get hp.still with hv | hv
        · exact hp.pure hw hv H
        · refine hp.run hw H (base_ext ?_ (fun e => by rw [hv] at e; cases e))
          have := hG
          unfold baseT at this
          rw [hv, cond_true] at this
          exact this
      · refine hp.run hw H ?_
        unfold baseT at hG ⊢
        cases e : lo.contains k with
        | true => rw [e, cond_true] at hG; exact hG
        | false => rw [e, cond_false] at hG; exact hF.trans hG
    · rw [WV_new hDi' hvv]; intro hw hV F'; simp only [hki, if_false]; exact hp.pure hw hV F'
theorem any_of_invT {P : Program} {T : Tab} (hT : TabOk P T) {ops : Array Oper} {lo : List Nat} {G : Heap} {σ : DT} (hchk : checkT T ops (maskGo ops.toList []) lo σ true [] = true) {K : Env → Heap → Prop} {Q : Exit → Env → Heap → Prop} (hQ : ∀ env F, K env F → Q .normal env F) {env0 : Env} {m0 : Bool} {n : Nat} {w0 : World} (hd : ∀ o ∈ ops.toList, dstOk n o = true) :
    ∀ (fuel : Nat) (listed : Array Bool) (a : Act) (w : World) (done : List Nat) (rest : DT) (v : Nat → Value) (F : Heap), InvT P T ops lo G K env0 m0 n w0 (fun i => listed.getD i false) a w true done rest v F → listed.size = ops.size →
      ((List.range ops.size).filter fun k => !listed.getD k false).length ≤ fuel → wpAny P .any ops (up m0 n w0 Q) fuel listed a w := by
  have fin : ∀ (listed : Array Bool) (a : Act) (w : World) (done : List Nat) (rest : DT) (v : Nat → Value) (F : Heap), InvT P T ops lo G K env0 m0 n w0 (fun i => listed.getD i false) a w true done rest v F → listed.size = ops.size → Region.ready .any ops listed = [] → up m0 n w0 Q .normal a w := by
    intro listed a w done rest v F h hsz hr
    have hl : ∀ i, i < ops.size → listed.getD i false = true := all_doneT hsz hr σ true [] hchk (fun _ h => by cases h)
    have end_ : ∀ (t : DT) (b : Bool), checkT T ops (maskGo ops.toList []) lo t b done = true → treeGo P T ops (maskGo ops.toList []) lo G K t done (WV ops env0 (fun k => done.contains k) v) F → K (WV ops env0 (fun k => done.contains k) v) F := by
      intro t
      induction t with
      | nil => intro b _ h; exact h
      | cons x t _ =>
        intro b hc _
        obtain ⟨⟨o, hc⟩, _⟩ := checkT_cons hc
        exact absurd (h.sub x (hl x (Array.getElem?_eq_some_iff.1 hc.get).1)) hc.new
      | fork l r ihl _ =>
        intro b hc ht
        simp only [checkT, Bool.and_eq_true] at hc
        exact ihl false hc.1.2 ht.1
    have ht := end_ rest true h.check h.told
    refine ⟨_, F, h.ag, h.held, h.has, h.rst, hQ _ _ ?_⟩
    have : WV ops env0 (fun i => listed.getD i false) v = WV ops env0 (fun k => done.contains k) v := by
      funext t
      refine WV_congr fun k hk => ⟨?_, fun _ => rfl⟩
      obtain ⟨_, _, _, hlt⟩ := writer_some hk
      have h1 := hl k hlt
      have h2 := h.sub k h1
      show listed.getD k false = done.contains k
      rw [h1]
      exact (by simpa using h2 : done.contains k = true).symm
    rw [this]
    exact ht
  intro fuel
  induction fuel with
  | zero =>
    intro listed a w done rest v F h hsz hc
    have hl : ∀ i, i < ops.size → listed.getD i false = true := fun i hi => by
      cases e : listed.getD i false with
      | true => rfl
      | false =>
        have : i ∈ (List.range ops.size).filter fun k => !listed.getD k false := by rw [List.mem_filter]; exact ⟨by simpa using hi, by rw [e]; rfl⟩
        rw [List.eq_nil_of_length_eq_zero (Nat.le_zero.1 hc)] at this
        cases this
    have hr : Region.ready .any ops listed = [] := by
      cases hr : Region.ready .any ops listed with
      | nil => rfl
      | cons x l =>
        obtain ⟨h1, h2, _⟩ := ready_of (by rw [hr]; simp : x ∈ Region.ready .any ops listed)
        have h3 := hl x h1
        rw [Array.getD_eq_getD_getElem?] at h2 h3
        rw [Array.getElem?_eq_getElem (by omega)] at h2 h3
        simp only [Option.getD_some] at h2 h3
        rw [h2] at h3; cases h3
    exact ⟨hr, fin listed a w done rest v F h hsz hr⟩
  | succ fuel ih =>
    intro listed a w done rest v F h hsz hcount
    refine ⟨fun hr => fin listed a w done rest v F h hsz hr, fun i hi => ?_⟩
    obtain ⟨hlt, hl, o, ho, hah⟩ := ready_of hi
    have hLi : listed.getD i false = false := by
      rw [Array.getD_eq_getD_getElem?, Array.getElem?_eq_getElem (by omega)] at hl ⊢
      exact hl
    have hahead : Ahead ops (fun k => listed.getD k false) i := fun p hp e he hb => by rw [ho] at hp; obtain rfl := Option.some.inj hp; exact hah e he hb
    have hdo : dstOk n o = true := hd o (List.mem_of_getElem? (by simpa using ho))
    have hL1 : ∀ k, k ≠ i → (listed.setIfInBounds i true).getD k false = listed.getD k false := fun k hk => by simp [Array.getD_eq_getD_getElem?, Ne.symm hk]
    have hL2 : (listed.setIfInBounds i true).getD i false = true := by simp [Array.getD_eq_getD_getElem?, hsz, hlt]
    have hcnt : ((List.range ops.size).filter fun k => !(listed.setIfInBounds i true).getD k false).length ≤ fuel := by
      have := count_set hlt hLi hsz
      omega
    -- an operation that is told: it is done
    have old2 : ∀ (done : List Nat) (rest : DT) (v : Nat → Value) (F : Heap), InvT P T ops lo G K env0 m0 n w0 (fun i => listed.getD i false) a w true done rest v F → i ∈ done → wpOp P ops (up m0 n w0 Q) i (wpAny P .any ops (up m0 n w0 Q) fuel (listed.setIfInBounds i true)) a w := by
      intro done rest v F h hid
      obtain ⟨o', D, hp⟩ := h.pend i hid hLi
      have : o' = o := by have := hp.get; rw [ho] at this; exact (Option.some.inj this).symm
      subst this
      have hagr : ∀ t ∈ o'.looksAt ops, WV ops env0 (fun k => listed.getD k false) v t = WV ops env0 D v t := fun t ht => by
        refine agree hp.apart (fun k hk => ⟨mask_sound hk h.lclosed hahead, hp.anc k hk⟩) (fun k hk => ⟨?_, ?_⟩) ⟨hLi, hp.self⟩ ht
        · cases e : listed.getD k false with
          | false => rfl
          | true =>
            have := mask_sound hk h.lclosed (fun p hp' e' he hb => h.lclosed k p hp' e e' he hb)
            rw [hLi] at this; cases this
        · cases e : D k with
          | false => rfl
          | true => have := hp.des k e; rw [hk] at this; cases this
      unfold wpOp
      rw [ho]
      dsimp only
      rw [wanted_of h.ag, wantedE_agree hagr]
      cases hw : wantedE ops (WV ops env0 D v) o' with
      | false =>
        rw [if_neg (by decide), ← hp.skip hw]
        exact ih _ _ _ done rest v F (h.exec hid hp hahead hdo hL1 hL2 h.has (Rest.refl _)) (by simpa using hsz) hcnt
      | true =>
        rw [if_pos rfl]
        have hrun := (opW_congr hp.plain (ev_agree hagr)).2 (hp.run hw F (base_ext' (fun hl => h.floor.resolve_left fun hf => absurd (hf i hl hlt) (by rw [hLi]; decide)) (fun _ => Ext.refl F)))
        refine .inl (opW_sound hrun h.ag h.has fun u F' w' hu hF' hr' => ?_)
        obtain ⟨rfl, rfl⟩ := hu
        exact ih _ _ _ done rest v F' (h.exec hid hp hahead hdo hL1 hL2 hF' hr') (by simpa using hsz) hcnt
    by_cases hid : i ∈ done
    · exact old2 _ _ _ _ h hid
    · obtain ⟨b, done, rest, v, h⟩ := h.reach hT hahead hlt rest hid
      obtain ⟨⟨o', hc⟩, hr⟩ := checkT_cons h.check
      have : o' = o := by have := hc.get; rw [ho] at this; exact (Option.some.inj this).symm
      subst this
      have hagr : ∀ t ∈ o'.looksAt ops, WV ops env0 (fun k => listed.getD k false) v t = WV ops env0 (fun k => done.contains k) v t := fun t ht => by
        refine agree (fun k p t hp hk hpt ht => (hc.apart k p t hp hk hpt).1 ht) (fun k hk => ⟨mask_sound hk h.lclosed hahead, ?_⟩) (fun k hk => ⟨?_, ?_⟩) ⟨hLi, by simpa using hc.new⟩ ht
        · exact mask_sound hk h.closed (fun p hp e he hb => by rw [hc.get] at hp; obtain rfl := Option.some.inj hp; simpa using hc.ahead e he hb)
        · cases e : listed.getD k false with
          | false => rfl
          | true =>
            have := mask_sound hk h.lclosed (fun p hp' e' he hb => h.lclosed k p hp' e e' he hb)
            rw [hLi] at this; cases this
        · cases e : done.contains k with
          | false => rfl
          | true =>
            have : done.contains i = true := mask_sound hk h.closed (fun p hp' e' he hb => h.closed k p hp' e e' he hb)
            exact absurd (by simpa using this) hc.new
      rcases treeGo_cons hT hc.get hc.low h.told with ⟨hw, ht⟩ | ⟨hw, hst, x, h1, h2, ht⟩ | ⟨hw, hst, hrun⟩
      · unfold wpOp
        rw [ho]
        dsimp only
        rw [wanted_of h.ag, wantedE_agree hagr, hw, if_neg (by decide)]
        exact ih _ _ _ _ _ _ F (h.move hc hahead hdo hL1 hL2 undef h.has (Rest.refl _) ht (floor_up h.floor hL1 hL2) (.inr (Ext.refl F))) (by simpa using hsz) hcnt
      · exact old2 _ _ _ _ (h.push hc hst x (fun e => by rw [hw] at e; cases e) (fun _ => ⟨h1, h2⟩) ht) (by simp)
      · unfold wpOp
        rw [ho]
        dsimp only
        rw [wanted_of h.ag, wantedE_agree hagr, hw, if_pos rfl]
        have hrun := (opW_congr hc.plain (ev_agree hagr)).2 hrun
        refine .inl (opW_sound hrun h.ag h.has fun x F' w' hu hF' hr' => ?_)
        obtain ⟨hfl, hk, ht⟩ := hu
        refine ih _ _ _ _ _ _ F' (h.move hc hahead hdo hL1 hL2 x hF' hr' ht ?hfl ?_) (by simpa using hsz) hcnt
        case hfl =>
          rcases hfl with hof | hG
          · refine .inl fun j h1 h2 => ?_
            unfold offT at hof
            have := List.all_eq_true.1 (Bool.and_eq_true_iff.1 hof).2 j (by simpa using h1)
            rw [Bool.or_eq_true, Bool.and_eq_true] at this
            rcases this with g | ⟨_, g⟩
            · exact absurd (Nat.le_of_ble_eq_true g) (by omega)
            · have hLj := mask_sound g h.lclosed hahead
              by_cases e : j = i
              · rw [e]; exact hL2
              · rw [hL1 j e]; exact hLj
          · exact .inr hG
        rcases hk with hs | hF
        · refine .inl fun k hk hLk p hp hst' => ?_
          have := List.all_eq_true.1 hs k hk
          rw [hp] at this
          simp only [Bool.or_eq_true] at this
          rcases this with ((g | g) | g) | g
          · exact .inl g
          · rw [hst'] at g; cases g
          · exact .inr g
          · have := mask_sound g h.lclosed hahead
            rw [hLk] at this; cases this
        · exact .inr hF
def treeOk (T : Tab) (ops : Array Oper) (lo : List Nat) (σ : DT) : Bool := checkT T ops (maskGo ops.toList []) lo σ true []
/-- A region that draws its order, told as a tree; what stands in lo is told by memory as it was when the region began. -/
theorem draw_tree_at {P : Program} {T : Tab} (hT : TabOk P T) (hm : P.follows .mixedOrders = true) {ops : Array Oper} (lo : List Nat) (σ : DT) (hok : treeOk T ops lo σ = true) {K : Env → Heap → Prop} {env : Env} {F : Heap} (G : Heap) (hG : Ext G F)
    (h : treeGo P T ops (maskGo ops.toList []) lo G K σ [] env F) : DrawK P T ops K env F := by
  refine ⟨fun m0 n a w w0 id Q hd hQ ha hh hw hr => ?_⟩
  refine wp_region_any hm ?_
  have h0 : ∀ k, (Array.replicate ops.size false).getD k false = false := fun k => by
    rw [Array.getD_eq_getD_getElem?, Array.getElem?_replicate]
    split <;> rfl
  have hWV : ∀ S : Nat → Bool, (∀ k, S k = false) → WV ops env S (fun _ => undef) = env := fun S hS => by
    funext t
    unfold WV
    cases writer ops t with
    | none => rfl
    | some k => dsimp only; rw [hS k]; rfl
  refine any_of_invT hT hok hQ hd ops.size _ a _ [] σ (fun _ => undef) F (env0 := env) ⟨hok, fun _ h => by (cases h), fun k o _ hk => by simp at hk, fun i hi => ?_, fun k o _ hk => ?_, ha.size, hh.mono ⟨rfl, rfl, rfl, Nat.le_refl _, fun _ h => h⟩, fun t => ?_, ?_, hw.of_heap rfl, .inr hG, hr.trans ⟨rfl, rfl, rfl, Nat.le_refl _, fun _ h => h⟩, fun _ h => by (cases h)⟩ (by simp) ?_
  · rw [h0 i] at hi; cases hi
  · rw [h0 k] at hk; cases hk
  · rw [ha.tmp t, hWV _ h0]
  · rw [hWV _ (fun k => by simp)]; exact h
  · exact Nat.le_trans (List.length_filter_le _ _) (by simp)
/-- .. by memory as it was when the region began. -/
theorem draw_tree {P : Program} {T : Tab} (hT : TabOk P T) (hm : P.follows .mixedOrders = true) {ops : Array Oper} (lo : List Nat) (σ : DT) (hok : treeOk T ops lo σ = true) {K : Env → Heap → Prop} {env : Env} {F : Heap}
    (h : treeGo P T ops (maskGo ops.toList []) lo F K σ [] env F) : DrawK P T ops K env F := draw_tree_at hT hm lo σ hok F (Ext.refl F) h
/-- One block alone. -/
def Heap.only (F : Heap) (b : Nat) : Heap := fun c => if c = b then F b else none
theorem only_ext {F G : Heap} {b : Nat} (h : G b = F b) : Ext (F.only b) G := fun c o hc => by
  unfold Heap.only at hc
  split at hc
  · next e => subst e; rw [h]; exact hc
  · cases hc
theorem only_at {F : Heap} {b : Nat} {o : Obj} (h : F b = some o) : F.only b b = some o := by unfold Heap.only; rw [if_pos rfl]; exact h
end Go.Al
/- What a command is; which kinds there are; whether numbers have so many bytes: the contracts over what is known of memory. -/
namespace Go.Proofs.Ytbgijjoemnfnmaa.Al
open Go Go.Al Go.Proofs Go.RowKit
set_option maxHeartbeats 8000000
set_option maxRecDepth 100000
set_option linter.unusedVariables false
set_option linter.unusedSimpArgs false
structure LD where
  f : Int
  o : Int
  n : Int
  a : Int
structure CD where
  k : Int
  y : Int
  x : Int
  f : Int
  o : Int
  n : Int
  p : Int
  d : Int
  l : Int
  a : Int
  ab : Bool
  nm : List UInt8
  ls : List LD
def lineV (l : LD) : List Value := [.int .i64 l.f, .int .i64 l.o, .int .i64 l.n, .int .i64 l.a]
def linesV (ls : List LD) : List Value := ls.flatMap lineV
abbrev cmdC (k y x f o n p d l a : Int) (ab : Bool) (nm : ByteArray) (S : Value) : Array Value :=
  #[.int .i64 k, .int .i64 y, .int .i64 x, .int .i64 f, .int .i64 o, .int .i64 n, .int .i64 p, .int .i64 d, .int .i64 l, .int .i64 a, .bool ab, .string nm, S]
theorem linesV_len (ls : List LD) : (linesV ls).length = ls.length * 4 := by
  induction ls with
  | nil => rfl
  | cons l ls ih =>
    unfold linesV at ih ⊢
    rw [List.flatMap_cons, List.length_append, ih, List.length_cons]
    show 4 + _ = _
    omega
theorem linesV_at : ∀ (ls : List LD) (j : Nat) (x : LD), ls[j]? = some x → ((linesV ls).drop (j * 4)).take 4 = lineV x := by
  intro ls
  induction ls with
  | nil => intro j x h; simp at h
  | cons l ls ih =>
    intro j x h
    unfold linesV at ih ⊢
    rw [List.flatMap_cons]
    cases j with
    | zero =>
      obtain rfl : l = x := by simpa using h
      rfl
    | succ j =>
      rw [show (j + 1) * 4 = 4 + j * 4 by omega, ← List.drop_drop, List.drop_left' (by rfl)]
      exact ih j x (by simpa using h)
def knownB (k : Int) : Bool := decide (1 ≤ k) && decide (k ≤ 20)
def asksB (k : Int) : Bool := decide (14 ≤ k) && decide (k ≤ 20)
theorem known (k : Int) (F : Heap) : FnK Try.prog 52 #[.int .i64 k] F (fun v F' => v = .bool (knownB k) ∧ F' = F) := by
  unfold knownB
  (refine fn_walk tab_ok Try.func52 rfl rfl rfl rfl ?_; (conv => whnf))
  refine cond_split (fun h => ?_) (fun h => ?_)
  · have h : decide (1 ≤ k) = true := h
    (conv => whnf)
    exact ⟨by rw [h]; rfl, rfl⟩
  · have h : decide (1 ≤ k) = false := h
    (conv => whnf)
    exact ⟨by rw [h]; rfl, rfl⟩
theorem rknown (k : Int) (F : Heap) : FnK Try.prog 55 #[.int .i64 k] F (fun v F' => v = .bool (knownB k) ∧ F' = F) := by
  unfold knownB
  (refine fn_walk tab_ok Try.func55 rfl rfl rfl rfl ?_; (conv => whnf))
  refine cond_split (fun h => ?_) (fun h => ?_)
  · have h : decide (1 ≤ k) = true := h
    (conv => whnf)
    exact ⟨by rw [h]; rfl, rfl⟩
  · have h : decide (1 ≤ k) = false := h
    (conv => whnf)
    exact ⟨by rw [h]; rfl, rfl⟩
theorem fit1 (m : Nat) (hm : Siz m) (n : Int) (b : Nat) (F : Heap) (hb : F b = some (.cells #[.int .i64 m] 3)) : FnK Try.prog 69 #[.int .i64 n, .pointer (some ⟨b, 0, none⟩)] F (fun v F' => v = .bool (!inM m n) ∧ F' = F) := by
  have hR := rightG m hm n
  generalize inM m n = z at hR
  (refine fn_walk tab_ok Try.func69 rfl rfl rfl rfl ?_; (conv => whnf))
  refine load_blk hb rfl rfl ?_
  (conv => whnf)
  refine call_of (hR F) ?_
  rintro v _ ⟨rfl, rfl⟩
  (conv => whnf)
  exact ⟨rfl, rfl⟩
theorem indexF (m : Nat) (hm : Siz m) (b : Nat) (l : List Int) (A : Option Addr) (c : Nat) (F : Heap) (hr : RowAt F A (l.map (.int .i64))) (hl : l.length ≤ 100000) (hb : F b = some (.cells #[.int .i64 m] 3)) :
    FnK Try.prog 80 #[.slice A l.length c, .func (.func 69) #[] #[.pointer (some ⟨b, 0, none⟩)]] F (fun v F' => (∃ r : Int, v = .int .i64 r ∧ decide (r ≥ 0) = !l.all (inM m)) ∧ F' = F) := by
  (refine fn_walk tab_ok Try.func80 rfl rfl rfl rfl ?_; (conv => whnf))
  refine loop_slots [0, 1, 7, 8] (fun k vs F' => ∃ j : Nat, j + k = l.length ∧ vs = [.slice A l.length c, .func (.func 69) #[] #[.pointer (some ⟨b, 0, none⟩)], .int .i64 (l.length : Int), .int .i64 (j : Int)] ∧ (l.take j).all (inM m) = true ∧ F' = F) l.length ⟨0, by omega, rfl, rfl, rfl⟩ ?_
  rintro k vs F2 ρ ⟨j, hjk, rfl, hall, rfl⟩
  (conv => whnf)
  refine cond_split (fun h => ?_) (fun h => ?_)
  · have hj : j < l.length := by have := of_decide_eq_true h; omega
    obtain ⟨ad, rfl⟩ := hr.some (by simp; omega)
    have hn : l[j]? = some l[j] := List.getElem?_eq_getElem hj
    have hf := fit1 m hm l[j] b F2 hb
    have hz : (l.take (j + 1)).all (inM m) = inM m l[j] := by
      rw [List.take_add_one, hn, List.all_append, hall]
      simp
    have hz2 : inM m l[j] = false → l.all (inM m) = false := fun e => by
      rw [← Bool.not_eq_true, List.all_eq_true]
      intro h
      rw [h _ (List.getElem_mem hj)] at e
      cases e
    generalize inM m l[j] = z at hf hz hz2
    (conv => whnf)
    refine ⟨⟨by omega, by omega⟩, ?_⟩
    (conv => whnf)
    refine load_step (v := .int .i64 l[j]) ?_ ?_
    · show F2.cell? (ad.add (Int.toNat (j : Int) * 1)) = _
      rw [Int.toNat_natCast, Nat.mul_one]
      exact hr.cell (by simp [hn])
    (conv => whnf)
    refine call_of hf ?_
    rintro v _ ⟨rfl, rfl⟩
    cases z with
    | false =>
      (conv => whnf)
      refine ⟨⟨(j : Int), rfl, ?_⟩, rfl⟩
      rw [hz2 rfl]
      simp
    | true =>
      (conv => whnf)
      refine ⟨k - 1, by omega, j + 1, by omega, ?_, hz, rfl⟩
      have hw : IntKind.i64.wrap ((j : Int) + 1) = ((j + 1 : Nat) : Int) := by rw [IntKind.wrap_i64]; omega
      rw [← hw]
      rfl
  · have hj : j = l.length := by have := of_decide_eq_false h; omega
    subst hj
    rw [List.take_length] at hall
    (conv => whnf)
    exact ⟨⟨-1, rfl, by rw [hall]; rfl⟩, rfl⟩
theorem containsF (m : Nat) (hm : Siz m) (b : Nat) (l : List Int) (A : Option Addr) (c : Nat) (F : Heap) (hr : RowAt F A (l.map (.int .i64))) (hl : l.length ≤ 100000) (hb : F b = some (.cells #[.int .i64 m] 3)) :
    FnK Try.prog 68 #[.slice A l.length c, .func (.func 69) #[] #[.pointer (some ⟨b, 0, none⟩)]] F (fun v F' => v = .bool (!l.all (inM m)) ∧ F' = F) := by
  have hi := indexF m hm b l A c F hr hl hb
  (refine fn_walk tab_ok Try.func68 rfl rfl rfl rfl ?_; (conv => whnf))
  refine call_of hi ?_
  rintro v _ ⟨⟨r, rfl, hr'⟩, rfl⟩
  (conv => whnf)
  exact ⟨congrArg Value.bool hr', rfl⟩
theorem fits (m : Nat) (hm : Siz m) (l : List Int) (A : Option Addr) (c : Nat) (F : Heap) (hr : RowAt F A (l.map (.int .i64))) (hl : l.length ≤ 100000) :
    FnK Try.prog 53 #[.int .i64 m, .slice A l.length c] F (fun v F' => v = .bool (l.all (inM m)) ∧ Ext F F') := by
  have hi := fun b F hr hb => containsF m hm b l A c F hr hl hb
  generalize l.all (inM m) = z at hi
  (refine fn_walk tab_ok Try.func53 rfl rfl rfl rfl ?_; (conv => whnf))
  refine new_step (.cells #[.int .i64 m] 3) rfl fun b hb => ?_
  (conv => whnf)
  refine call_of (hi b _ (hr.mono (Ext.new hb _)) (Heap.put_same _ _ _)) ?_
  rintro v _ ⟨rfl, rfl⟩
  (conv => whnf)
  exact ⟨congrArg Value.bool (Bool.not_not z), Ext.new hb _⟩
theorem rright (m : Nat) (hm : Siz m) (l : List Int) (A : Option Addr) (c : Nat) (F : Heap) (hr : RowAt F A (l.map (.int .i64))) (hl : l.length ≤ 100000) :
    FnK Try.prog 56 #[.slice A l.length c, .int .i64 m] F (fun v F' => v = .bool (l.all (inM m)) ∧ F' = F) := by
  (refine fn_walk tab_ok Try.func56 rfl rfl rfl rfl ?_; (conv => whnf))
  refine loop_slots [0, 1, 5] (fun k vs F' => ∃ j : Nat, j + k = l.length ∧ vs = [.slice A l.length c, .int .i64 m, .int .i64 (j : Int)] ∧ (l.take j).all (inM m) = true ∧ F' = F) l.length ⟨0, by omega, rfl, rfl, rfl⟩ ?_
  rintro k vs F2 ρ ⟨j, hjk, rfl, hall, rfl⟩
  (conv => whnf)
  refine cond_split (fun h => ?_) (fun h => ?_)
  · have hj : j < l.length := by have := of_decide_eq_true h; omega
    obtain ⟨ad, rfl⟩ := hr.some (by simp; omega)
    have hn : l[j]? = some l[j] := List.getElem?_eq_getElem hj
    have hf := rrightG m hm l[j] F2
    have hz : (l.take (j + 1)).all (inM m) = inM m l[j] := by
      rw [List.take_add_one, hn, List.all_append, hall]
      simp
    have hz2 : inM m l[j] = false → l.all (inM m) = false := fun e => by
      rw [← Bool.not_eq_true, List.all_eq_true]
      intro h
      rw [h _ (List.getElem_mem hj)] at e
      cases e
    generalize inM m l[j] = z at hf hz hz2
    (conv => whnf)
    refine ⟨⟨by omega, by omega⟩, ?_⟩
    (conv => whnf)
    refine load_step (v := .int .i64 l[j]) ?_ ?_
    · show F2.cell? (ad.add (Int.toNat (j : Int) * 1)) = _
      rw [Int.toNat_natCast, Nat.mul_one]
      exact hr.cell (by simp [hn])
    (conv => whnf)
    refine call_of hf ?_
    rintro v _ ⟨rfl, rfl⟩
    cases z with
    | false =>
      have := hz2 rfl
      (conv => whnf)
      exact ⟨congrArg Value.bool this.symm, rfl⟩
    | true =>
      (conv => whnf)
      refine ⟨k - 1, by omega, j + 1, by omega, ?_, hz, rfl⟩
      have hw : IntKind.i64.wrap ((j : Int) + 1) = ((j + 1 : Nat) : Int) := by rw [IntKind.wrap_i64]; omega
      rw [← hw]
      rfl
  · have hj : j = l.length := by have := of_decide_eq_false h; omega
    subst hj
    rw [List.take_length] at hall
    (conv => whnf)
    exact ⟨congrArg Value.bool hall.symm, rfl⟩
end Go.Proofs.Ytbgijjoemnfnmaa.Al
/- The contracts of cmd.may and of its reference, over what is known of memory. -/
namespace Go.Proofs.Ytbgijjoemnfnmaa.Al
open Go Go.Al Go.Proofs Go.RowKit
set_option maxHeartbeats 8000000
set_option maxRecDepth 100000
set_option linter.unusedVariables false
set_option linter.unusedSimpArgs false
def lineOk (l : LD) : Bool := ([l.f, l.o, l.n] : List Int).all (inM 2)
def mayB (c : CD) : Bool := knownB c.k && (decide (c.nm.length ≤ 255) && (decide (c.ls.length ≤ 255) && (([c.y, c.x, c.f, c.o, c.n, c.p] : List Int).all (inM 2) && (([c.d] : List Int).all (inM 4) && (([c.l] : List Int).all (inM 1) && c.ls.all lineOk)))))
theorem mayB_iff (c : CD) : mayB c = true ↔ knownB c.k = true ∧ c.nm.length ≤ 255 ∧ c.ls.length ≤ 255 ∧ ([c.y, c.x, c.f, c.o, c.n, c.p] : List Int).all (inM 2) = true ∧ ([c.d] : List Int).all (inM 4) = true ∧ ([c.l] : List Int).all (inM 1) = true ∧ c.ls.all lineOk = true := by
  unfold mayB
  simp only [Bool.and_eq_true, decide_eq_true_eq]
theorem row_new {F : Heap} {g : Nat} {l : List Int} (h : F g = some (.cells (l.map (Value.int .i64)).toArray 3)) : RowAt F (some ⟨g, 0, none⟩) (l.map (.int .i64)) := fun j v hj => ⟨_, rfl, by
  rw [add_plain, Heap.cell_at h, Nat.zero_add]
  simpa using hj⟩
abbrev lineO (f o n a : Int) : Obj := .cells #[.int .i64 f, .int .i64 o, .int .i64 n, .int .i64 a] 41
abbrev cmdO (k y x f o n p d l a : Int) (ab : Bool) (nm : ByteArray) (S : Value) : Obj := .cells (cmdC k y x f o n p d l a ab nm S) 25
theorem line_load {F : Heap} {ad : Addr} {ls : List LD} {j : Nat} {K : Value → Prop} (hr : RowAt F (some ad) (linesV ls)) (hj : j < ls.length) (hk : K (.agg #[.int .i64 ls[j].f, .int .i64 ls[j].o, .int .i64 ls[j].n, .int .i64 ls[j].a])) : LoadsK F (ad.add (j * 4)) 4 K := by
  have hx : ls[j]? = some ls[j] := List.getElem?_eq_getElem hj
  refine loads_row hr (by decide) (by rw [linesV_len]; omega) ?_
  rw [linesV_at ls j _ hx]
  exact hk
theorem all_take {ls : List LD} {j : Nat} (hj : j < ls.length) (h : (ls.take j).all lineOk = true) : (ls.take (j + 1)).all lineOk = lineOk ls[j] ∧ (lineOk ls[j] = false → ls.all lineOk = false) := by
  have hx : ls[j]? = some ls[j] := List.getElem?_eq_getElem hj
  refine ⟨?_, fun e => ?_⟩
  · rw [List.take_add_one, hx, List.all_append, h]
    simp
  · rw [← Bool.not_eq_true, List.all_eq_true]
    intro h
    rw [h _ (List.getElem_mem hj)] at e
    cases e
theorem may (k y x f o n p d l a : Int) (ab : Bool) (nm : List UInt8) (ls : List LD) (A : Option Addr) (c : Nat) (F : Heap) (hr : RowAt F A (linesV ls)) (hn : nm.length ≤ 100000) (hl : ls.length ≤ 10000) :
    FnK Try.prog 33 #[.agg (cmdC k y x f o n p d l a ab ⟨nm.toArray⟩ (.slice A ls.length c))] F (fun v F' => v = .bool (mayB ⟨k, y, x, f, o, n, p, d, l, a, ab, nm, ls⟩) ∧ Ext F F') := by
  have hm := mayB_iff ⟨k, y, x, f, o, n, p, d, l, a, ab, nm, ls⟩
  generalize mayB ⟨k, y, x, f, o, n, p, d, l, a, ab, nm, ls⟩ = q at hm ⊢
  dsimp only at hm
  have no : ∀ F', ¬ (q = true) → Ext F F' → (Value.bool false = .bool q ∧ Ext F F') := by
    intro F' h hE
    rw [Bool.not_eq_true] at h
    exact ⟨by rw [h], hE⟩
  have yes : ∀ F', q = true → Ext F F' → (Value.bool true = .bool q ∧ Ext F F') := by
    intro F' h hE
    exact ⟨by rw [h], hE⟩
  have c1 := known k
  generalize knownB k = z1 at c1 hm
  have c2 := fun A F hr => fits 2 (.inr (.inl rfl)) [y, x, f, o, n, p] A 6 F hr (by simp)
  generalize ([y, x, f, o, n, p] : List Int).all (inM 2) = z2 at c2 hm
  have c3 := fun A F hr => fits 4 (.inr (.inr (.inl rfl))) [d] A 1 F hr (by simp)
  generalize ([d] : List Int).all (inM 4) = z3 at c3 hm
  have c4 := fun A F hr => fits 1 (.inl rfl) [l] A 1 F hr (by simp)
  generalize ([l] : List Int).all (inM 1) = z4 at c4 hm
  have c5 := fun (q : LD) A F hr => fits 2 (.inr (.inl rfl)) [q.f, q.o, q.n] A 3 F hr (by simp)
  (refine fn_walk tab_ok Try.func33 rfl rfl rfl rfl ?_; (conv => whnf))
  refine new_step (cmdO k y x f o n p d l a ab ⟨nm.toArray⟩ (.slice A ls.length c)) rfl fun b hb => ?_
  have hE := Ext.new hb (cmdO k y x f o n p d l a ab ⟨nm.toArray⟩ (.slice A ls.length c))
  have hB := Heap.put_same F b (cmdO k y x f o n p d l a ab ⟨nm.toArray⟩ (.slice A ls.length c))
  generalize F.put b _ = F1 at hE hB ⊢
  (conv => whnf)
  refine load_blk hB rfl rfl ?_
  (conv => whnf)
  refine call_of (c1 _) ?_
  rintro v F1 ⟨rfl, rfl⟩
  cases z1 with
  | false =>
    (conv => whnf)
    exact no _ (fun h => by cases (hm.1 h).1) hE
  | true =>
  (conv => whnf)
  refine load_blk hB rfl rfl ?_
  (conv => whnf)
  refine cond_split (fun h => ?_) (fun h => ?_)
  case refine_2 =>
    have h : (!decide (((nm.length : Nat) : Int) > 255)) = false := h
    (conv => whnf)
    exact no _ (fun h' => by have := (hm.1 h').2.1; simp at h; omega) hE
  have h2 : nm.length ≤ 255 := by
    have h : (!decide (((nm.length : Nat) : Int) > 255)) = true := h
    simp at h
    omega
  (conv => whnf)
  refine load_blk hB rfl rfl ?_
  (conv => whnf)
  refine cond_split (fun h => ?_) (fun h => ?_)
  · have h : decide (((ls.length : Nat) : Int) > 255) = true := h
    have h := of_decide_eq_true h
    (conv => whnf)
    exact no _ (fun h' => by have := (hm.1 h').2.2.1; omega) hE
  have h3 : ls.length ≤ 255 := by
    have h : decide (((ls.length : Nat) : Int) > 255) = false := h
    have := of_decide_eq_false h
    omega
  (conv => whnf)
  refine load_blk hB rfl rfl ?_
  (conv => whnf)
  refine load_blk hB rfl rfl ?_
  (conv => whnf)
  refine load_blk hB rfl rfl ?_
  (conv => whnf)
  refine load_blk hB rfl rfl ?_
  (conv => whnf)
  refine load_blk hB rfl rfl ?_
  (conv => whnf)
  refine load_blk hB rfl rfl ?_
  (conv => whnf)
  refine new_step (.cells (([y, x, f, o, n, p] : List Int).map (Value.int .i64)).toArray 3) rfl fun g hg => ?_
  have hE2 := hE.trans (Ext.new hg (.cells (([y, x, f, o, n, p] : List Int).map (Value.int .i64)).toArray 3))
  have hB2 := (Ext.new hg (.cells (([y, x, f, o, n, p] : List Int).map (Value.int .i64)).toArray 3)) _ _ hB
  have hG := Heap.put_same F1 g (.cells (([y, x, f, o, n, p] : List Int).map (Value.int .i64)).toArray 3)
  generalize F1.put g _ = F2 at hE2 hB2 hG ⊢
  (conv => whnf)
  refine call_of (c2 (some ⟨g, 0, none⟩) F2 (row_new hG)) ?_
  rintro v F3 ⟨rfl, hE3⟩
  have hB3 := hE3 _ _ hB2
  replace hE3 := hE2.trans hE3
  refine short [1, 34] [.pointer (some ⟨b, 0, none⟩), .bool z2] rfl fun ρ => ?_
  cases z2 with
  | false =>
    (conv => whnf)
    exact no _ (fun h => by cases (hm.1 h).2.2.2.1) hE3
  | true =>
  (conv => whnf)
  refine load_blk hB3 rfl rfl ?_
  (conv => whnf)
  refine new_step (.cells (([d] : List Int).map (Value.int .i64)).toArray 3) rfl fun g hg => ?_
  have hE4 := hE3.trans (Ext.new hg (.cells (([d] : List Int).map (Value.int .i64)).toArray 3))
  have hB4 := (Ext.new hg (.cells (([d] : List Int).map (Value.int .i64)).toArray 3)) _ _ hB3
  have hG := Heap.put_same F3 g (.cells (([d] : List Int).map (Value.int .i64)).toArray 3)
  generalize F3.put g _ = F4 at hE4 hB4 hG ⊢
  (conv => whnf)
  refine call_of (c3 (some ⟨g, 0, none⟩) F4 (row_new hG)) ?_
  rintro v F5 ⟨rfl, hE5⟩
  have hB5 := hE5 _ _ hB4
  replace hE5 := hE4.trans hE5
  cases z3 with
  | false =>
    (conv => whnf)
    exact no _ (fun h => by cases (hm.1 h).2.2.2.2.1) hE5
  | true =>
  (conv => whnf)
  refine load_blk hB5 rfl rfl ?_
  (conv => whnf)
  refine new_step (.cells (([l] : List Int).map (Value.int .i64)).toArray 3) rfl fun g hg => ?_
  have hE6 := hE5.trans (Ext.new hg (.cells (([l] : List Int).map (Value.int .i64)).toArray 3))
  have hB6 := (Ext.new hg (.cells (([l] : List Int).map (Value.int .i64)).toArray 3)) _ _ hB5
  have hG := Heap.put_same F5 g (.cells (([l] : List Int).map (Value.int .i64)).toArray 3)
  generalize F5.put g _ = F6 at hE6 hB6 hG ⊢
  (conv => whnf)
  refine call_of (c4 (some ⟨g, 0, none⟩) F6 (row_new hG)) ?_
  rintro v F7 ⟨rfl, hE7⟩
  have hB7 := hE7 _ _ hB6
  replace hE7 := hE6.trans hE7
  cases z4 with
  | false =>
    (conv => whnf)
    exact no _ (fun h => by cases (hm.1 h).2.2.2.2.2.1) hE7
  | true =>
  (conv => whnf)
  refine load_blk hB7 rfl rfl ?_
  (conv => whnf)
  refine loop_slots [51, 52, 53] (fun mm vs F' => ∃ j : Nat, j + mm = ls.length ∧ vs = [.slice A ls.length c, .int .i64 (ls.length : Int), .int .i64 (j : Int)] ∧ (ls.take j).all lineOk = true ∧ Ext F F') ls.length ⟨0, by omega, rfl, rfl, hE7⟩ ?_
  rintro m vs F8 ρ ⟨j, hjm, rfl, hall, hE8⟩
  (conv => whnf)
  refine cond_split (fun h => ?_) (fun h => ?_)
  · have hj : j < ls.length := by have := of_decide_eq_true h; omega
    obtain ⟨ad, rfl⟩ := hr.some (by rw [linesV_len]; omega)
    obtain ⟨ht1, ht2⟩ := all_take hj hall
    have c6 := c5 ls[j]
    change ∀ A F, _ → FnK _ _ _ _ (fun v F' => v = .bool (lineOk ls[j]) ∧ _) at c6
    generalize lineOk ls[j] = z5 at ht1 ht2 c6
    have hLr := fun (K : Value → Prop) => line_load (K := K) (hr.mono hE8) hj
    have hja : ad.add (Int.toNat (j : Int) * 4) = ad.add (j * 4) := by rw [Int.toNat_natCast]
    rw [← hja] at hLr
    generalize ls[j] = w at c6 hLr
    obtain ⟨wf, wo, wn, wa⟩ := w
    dsimp only at c6 hLr
    (conv => whnf)
    refine ⟨⟨by omega, by omega⟩, ?_⟩
    (conv => whnf)
    refine hLr _ ?_
    (conv => whnf)
    refine new_step (lineO 0 0 0 0) rfl fun u hu => ?_
    have hE9 := hE8.trans (Ext.new hu (lineO 0 0 0 0))
    have hU := Heap.put_same F8 u (lineO 0 0 0 0)
    have hEu : ∀ o, Ext F8 ((F8.put u (lineO 0 0 0 0)).put u o) := fun o => ext_put_put hu
    generalize F8.put u _ = F9 at hE9 hU hEu ⊢
    have o1 : ∀ v ∈ [Value.int .i64 wf, .int .i64 wo, .int .i64 wn, .int .i64 wa], v.oneCell' = true := by simp [Value.oneCell']
    (conv => whnf)
    refine store_step u 0 _ #[.int .i64 wf, .int .i64 wo, .int .i64 wn, .int .i64 wa] rfl hU rfl rfl (.inl (Nat.le_refl 0)) o1 ?_
    have hE10 := hE8.trans (hEu (lineO wf wo wn wa))
    have hU10 := Heap.put_same F9 u (lineO wf wo wn wa)
    generalize F9.put u _ = F10 at hE10 hU10 ⊢
    refine short [4, 51, 52, 53] [.pointer (some ⟨u, 0, none⟩), .slice (some ad) ls.length c, .int .i64 (ls.length : Int), .int .i64 (j : Int)] rfl fun ρ => ?_
    (conv => whnf)
    refine load_blk hU10 rfl rfl ?_
    (conv => whnf)
    refine load_blk hU10 rfl rfl ?_
    (conv => whnf)
    refine load_blk hU10 rfl rfl ?_
    (conv => whnf)
    refine new_step (.cells (([wf, wo, wn] : List Int).map (Value.int .i64)).toArray 3) rfl fun g hg => ?_
    have hE11 := hE10.trans (Ext.new hg (.cells (([wf, wo, wn] : List Int).map (Value.int .i64)).toArray 3))
    have hG := Heap.put_same F10 g (.cells (([wf, wo, wn] : List Int).map (Value.int .i64)).toArray 3)
    generalize F10.put g _ = F11 at hE11 hG ⊢
    (conv => whnf)
    refine call_of (c6 (some ⟨g, 0, none⟩) F11 (row_new hG)) ?_
    rintro v F12 ⟨rfl, hE12⟩
    replace hE12 := hE11.trans hE12
    cases z5 with
    | false =>
      (conv => whnf)
      exact no _ (fun h => by have := (hm.1 h).2.2.2.2.2.2; rw [ht2 rfl] at this; cases this) hE12
    | true =>
      (conv => whnf)
      refine ⟨m - 1, by omega, j + 1, by omega, ?_, ht1, hE12⟩
      have hw : IntKind.i64.wrap ((j : Int) + 1) = ((j + 1 : Nat) : Int) := by rw [IntKind.wrap_i64]; omega
      rw [← hw]
      rfl
  · have hj : j = ls.length := by have := of_decide_eq_false h; omega
    subst hj
    rw [List.take_length] at hall
    (conv => whnf)
    exact yes _ (hm.2 ⟨rfl, h2, h3, rfl, rfl, rfl, hall⟩) hE8
end Go.Proofs.Ytbgijjoemnfnmaa.Al
/- The contract of the reference's may, over what is known of memory. -/
namespace Go.Proofs.Ytbgijjoemnfnmaa.Al
open Go Go.Al Go.Proofs Go.RowKit
set_option maxHeartbeats 8000000
set_option maxRecDepth 100000
set_option linter.unusedVariables false
set_option linter.unusedSimpArgs false
theorem line_cell {F : Heap} {ad : Addr} {ls : List LD} {j : Nat} (hr : RowAt F (some ad) (linesV ls)) (hj : j < ls.length) (q : Nat) (v : Value) (hq : (lineV ls[j])[q]? = some v) : F.cell? ((ad.add (Int.toNat (j : Int) * 4)).add q) = some v := by
  have hx : ls[j]? = some ls[j] := List.getElem?_eq_getElem hj
  rw [add_add, Int.toNat_natCast]
  refine hr.cell ?_
  have h4 : q < 4 := (List.getElem?_eq_some_iff.1 hq).1
  have := linesV_at ls j _ hx
  rw [← this, List.getElem?_take, if_pos h4, List.getElem?_drop] at hq
  exact hq
theorem rmay (k y x f o n p d l a : Int) (ab : Bool) (nm : List UInt8) (ls : List LD) (A : Option Addr) (c : Nat) (F : Heap) (hr : RowAt F A (linesV ls)) (hn : nm.length ≤ 100000) (hl : ls.length ≤ 10000) :
    FnK Try.prog 41 #[.agg (cmdC k y x f o n p d l a ab ⟨nm.toArray⟩ (.slice A ls.length c))] F (fun v F' => v = .bool (mayB ⟨k, y, x, f, o, n, p, d, l, a, ab, nm, ls⟩) ∧ Ext F F') := by
  have hm := mayB_iff ⟨k, y, x, f, o, n, p, d, l, a, ab, nm, ls⟩
  generalize mayB ⟨k, y, x, f, o, n, p, d, l, a, ab, nm, ls⟩ = q at hm ⊢
  dsimp only at hm
  have no : ∀ F', ¬ (q = true) → Ext F F' → (Value.bool false = .bool q ∧ Ext F F') := by
    intro F' h hE
    rw [Bool.not_eq_true] at h
    exact ⟨by rw [h], hE⟩
  have c1 := rknown k
  generalize knownB k = z1 at c1 hm
  have c2 := fun A F hr => rright 2 (.inr (.inl rfl)) [y, x, f, o, n, p] A 6 F hr (by simp)
  generalize ([y, x, f, o, n, p] : List Int).all (inM 2) = z2 at c2 hm
  have c3 := fun A F hr => rright 4 (.inr (.inr (.inl rfl))) [d] A 1 F hr (by simp)
  generalize ([d] : List Int).all (inM 4) = z3 at c3 hm
  have c4 := fun A F hr => rright 1 (.inl rfl) [l] A 1 F hr (by simp)
  generalize ([l] : List Int).all (inM 1) = z4 at c4 hm
  have c5 := fun (q : LD) A F hr => rright 2 (.inr (.inl rfl)) [q.f, q.o, q.n] A 3 F hr (by simp)
  (refine fn_walk tab_ok Try.func41 rfl rfl rfl rfl ?_; (conv => whnf))
  refine new_step (cmdO k y x f o n p d l a ab ⟨nm.toArray⟩ (.slice A ls.length c)) rfl fun b hb => ?_
  have hE := Ext.new hb (cmdO k y x f o n p d l a ab ⟨nm.toArray⟩ (.slice A ls.length c))
  have hB := Heap.put_same F b (cmdO k y x f o n p d l a ab ⟨nm.toArray⟩ (.slice A ls.length c))
  generalize F.put b _ = F1 at hE hB ⊢
  (conv => whnf)
  refine load_blk hB rfl rfl ?_
  (conv => whnf)
  refine call_of (c1 _) ?_
  rintro v F1 ⟨rfl, rfl⟩
  cases z1 with
  | false =>
    (conv => whnf)
    exact no _ (fun h => by cases (hm.1 h).1) hE
  | true =>
  (conv => whnf)
  refine load_blk hB rfl rfl ?_
  (conv => whnf)
  refine load_blk hB rfl rfl ?_
  (conv => whnf)
  refine load_blk hB rfl rfl ?_
  (conv => whnf)
  refine load_blk hB rfl rfl ?_
  (conv => whnf)
  refine load_blk hB rfl rfl ?_
  (conv => whnf)
  refine load_blk hB rfl rfl ?_
  (conv => whnf)
  refine new_step (.cells (([y, x, f, o, n, p] : List Int).map (Value.int .i64)).toArray 3) rfl fun g hg => ?_
  have hE2 := hE.trans (Ext.new hg (.cells (([y, x, f, o, n, p] : List Int).map (Value.int .i64)).toArray 3))
  have hB2 := (Ext.new hg (.cells (([y, x, f, o, n, p] : List Int).map (Value.int .i64)).toArray 3)) _ _ hB
  have hG := Heap.put_same F1 g (.cells (([y, x, f, o, n, p] : List Int).map (Value.int .i64)).toArray 3)
  generalize F1.put g _ = F2 at hE2 hB2 hG ⊢
  (conv => whnf)
  refine call_of (c2 (some ⟨g, 0, none⟩) F2 (row_new hG)) ?_
  rintro v F3 ⟨rfl, rfl⟩
  refine short [1, 8, 22] [.pointer (some ⟨b, 0, none⟩), .bool false, .bool z2] rfl fun ρ => ?_
  cases z2 with
  | false =>
    (conv => whnf)
    exact no _ (fun h => by cases (hm.1 h).2.2.2.1) hE2
  | true =>
  (conv => whnf)
  refine load_blk hB2 rfl rfl ?_
  (conv => whnf)
  refine new_step (.cells (([d] : List Int).map (Value.int .i64)).toArray 3) rfl fun g hg => ?_
  have hE4 := hE2.trans (Ext.new hg (.cells (([d] : List Int).map (Value.int .i64)).toArray 3))
  have hB4 := (Ext.new hg (.cells (([d] : List Int).map (Value.int .i64)).toArray 3)) _ _ hB2
  have hG := Heap.put_same F3 g (.cells (([d] : List Int).map (Value.int .i64)).toArray 3)
  generalize F3.put g _ = F4 at hE4 hB4 hG ⊢
  (conv => whnf)
  refine call_of (c3 (some ⟨g, 0, none⟩) F4 (row_new hG)) ?_
  rintro v F5 ⟨rfl, rfl⟩
  cases z3 with
  | false =>
    (conv => whnf)
    exact no _ (fun h => by cases (hm.1 h).2.2.2.2.1) hE4
  | true =>
  (conv => whnf)
  refine load_blk hB4 rfl rfl ?_
  (conv => whnf)
  refine new_step (.cells (([l] : List Int).map (Value.int .i64)).toArray 3) rfl fun g hg => ?_
  have hE6 := hE4.trans (Ext.new hg (.cells (([l] : List Int).map (Value.int .i64)).toArray 3))
  have hB6 := (Ext.new hg (.cells (([l] : List Int).map (Value.int .i64)).toArray 3)) _ _ hB4
  have hG := Heap.put_same F5 g (.cells (([l] : List Int).map (Value.int .i64)).toArray 3)
  generalize F5.put g _ = F6 at hE6 hB6 hG ⊢
  (conv => whnf)
  refine call_of (c4 (some ⟨g, 0, none⟩) F6 (row_new hG)) ?_
  rintro v F7 ⟨rfl, rfl⟩
  cases z4 with
  | false =>
    (conv => whnf)
    exact no _ (fun h => by cases (hm.1 h).2.2.2.2.2.1) hE6
  | true =>
  (conv => whnf)
  refine loop_slots [1, 3] (fun mm vs F' => ∃ j : Nat, j + mm = ls.length ∧ vs = [.pointer (some ⟨b, 0, none⟩), .int .i64 (j : Int)] ∧ (ls.take j).all lineOk = true ∧ Ext F F' ∧ F' b = some (cmdO k y x f o n p d l a ab ⟨nm.toArray⟩ (.slice A ls.length c))) ls.length ⟨0, by omega, rfl, rfl, hE6, hB6⟩ ?_
  rintro m vs F8 ρ ⟨j, hjm, rfl, hall, hE8, hB8⟩
  (conv => whnf)
  refine load_blk hB8 rfl rfl ?_
  (conv => whnf)
  refine cond_split (fun h => ?_) (fun h => ?_)
  · have hj : j < ls.length := by have := of_decide_eq_true h; omega
    obtain ⟨ad, rfl⟩ := hr.some (by rw [linesV_len]; omega)
    obtain ⟨ht1, ht2⟩ := all_take hj hall
    have c6 := c5 ls[j]
    change ∀ A F, _ → FnK _ _ _ _ (fun v F' => v = .bool (lineOk ls[j]) ∧ _) at c6
    generalize lineOk ls[j] = z5 at ht1 ht2 c6
    have hc0 := line_cell (hr.mono hE8) hj 0 _ rfl
    have hc1 := line_cell (hr.mono hE8) hj 1 _ rfl
    have hc2 := line_cell (hr.mono hE8) hj 2 _ rfl
    generalize ls[j] = w at c6 hc0 hc1 hc2
    obtain ⟨wf, wo, wn, wa⟩ := w
    dsimp only at c6 hc0 hc1 hc2
    (conv => whnf)
    refine draw_walk tab_ok (by kernel_rfl) [0, 1, 2, 3, 4, 5, 6, 7, 8, 9, 10, 11, 12, 13, 14, 15, 16, 17, 18, 19, 20] (by kernel_rfl) ?_
    (conv => whnf)
    refine load_blk hB8 rfl rfl ?_
    (conv => whnf)
    refine ⟨⟨by omega, by omega⟩, ?_⟩
    (conv => whnf)
    refine load_step hc0 ?_
    (conv => whnf)
    refine load_blk hB8 rfl rfl ?_
    (conv => whnf)
    refine ⟨⟨by omega, by omega⟩, ?_⟩
    (conv => whnf)
    refine load_step hc1 ?_
    (conv => whnf)
    refine load_blk hB8 rfl rfl ?_
    (conv => whnf)
    refine ⟨⟨by omega, by omega⟩, ?_⟩
    (conv => whnf)
    refine load_step hc2 ?_
    (conv => whnf)
    refine new_step (.cells (([wf, wo, wn] : List Int).map (Value.int .i64)).toArray 3) rfl fun g hg => ?_
    have hE9 := hE8.trans (Ext.new hg (.cells (([wf, wo, wn] : List Int).map (Value.int .i64)).toArray 3))
    have hB9 := (Ext.new hg (.cells (([wf, wo, wn] : List Int).map (Value.int .i64)).toArray 3)) _ _ hB8
    have hG := Heap.put_same F8 g (.cells (([wf, wo, wn] : List Int).map (Value.int .i64)).toArray 3)
    generalize F8.put g _ = F9 at hE9 hB9 hG ⊢
    (conv => whnf)
    refine call_of (c6 (some ⟨g, 0, none⟩) F9 (row_new hG)) ?_
    rintro v F9 ⟨rfl, rfl⟩
    cases z5 with
    | false =>
      (conv => whnf)
      exact no _ (fun h => by have := (hm.1 h).2.2.2.2.2.2; rw [ht2 rfl] at this; cases this) hE9
    | true =>
      (conv => whnf)
      refine ⟨m - 1, by omega, j + 1, by omega, ?_, ht1, hE9, hB9⟩
      have hw : IntKind.i64.wrap ((j : Int) + 1) = ((j + 1 : Nat) : Int) := by rw [IntKind.wrap_i64]; omega
      rw [← hw]
      rfl
  · have hj : j = ls.length := by have := of_decide_eq_false h; omega
    subst hj
    rw [List.take_length] at hall
    (conv => whnf)
    refine load_blk hB8 rfl rfl ?_
    (conv => whnf)
    refine cond_split (fun h => ?_) (fun h => ?_)
    · have h1 : decide (((nm.length : Nat) : Int) ≤ 255) = true := h
      have h1 := of_decide_eq_true h1
      (conv => whnf)
      refine load_blk hB8 rfl rfl ?_
      (conv => whnf)
      refine ⟨congrArg Value.bool ?_, hE8⟩
      show decide (((ls.length : Nat) : Int) ≤ 255) = q
      rw [Bool.eq_iff_iff, decide_eq_true_iff, hm]
      constructor
      · intro h2; exact ⟨rfl, by omega, by omega, rfl, rfl, rfl, hall⟩
      · intro h2; have := h2.2.2.1; omega
    · have h1 : decide (((nm.length : Nat) : Int) ≤ 255) = false := h
      have h1 := of_decide_eq_false h1
      (conv => whnf)
      exact no _ (fun h => by have := (hm.1 h).2.1; omega) hE8
end Go.Proofs.Ytbgijjoemnfnmaa.Al
/- The contracts of the writer's nums, of bit, and of the reference's put, over what is known of memory. -/
namespace Go.Proofs.Ytbgijjoemnfnmaa.Al
open Go Go.Al Go.Proofs Go.RowKit
set_option maxHeartbeats 8000000
set_option maxRecDepth 100000
set_option linter.unusedVariables false
set_option linter.unusedSimpArgs false
abbrev writerO (S : Value) : Obj := .cells #[S] 67
/-- A writer, in block w, that wasn't there in F0: it has written bs. -/
def WS (F0 F : Heap) (w : Nat) (bs : List UInt8) : Prop := ∃ S, F w = some (writerO S) ∧ F0 w = none ∧ Mine F0 F S 5 1 bs.length (bytesOf bs)
theorem WS.mono {F0 F G : Heap} {w : Nat} {bs : List UInt8} (h : WS F0 F w bs) (hE : Ext F G) : WS F0 G w bs := by
  obtain ⟨S, h1, h2, h3⟩ := h
  exact ⟨S, hE _ _ h1, h2, h3.mono hE⟩
theorem WS.ext {F0 F : Heap} {w : Nat} {bs : List UInt8} (h : WS F0 F w bs) : Ext F0 F := by
  obtain ⟨S, h1, h2, h3⟩ := h
  exact h3.ext
theorem u8_writer : (5 : Nat) ≠ 67 := by decide
theorem nums (m : Nat) (hm : Siz m) (bs : List UInt8) (l : List Int) (A : Option Addr) (c : Nat) (F0 F : Heap) (w : Nat) (hw : WS F0 F w bs) (hr : RowAt F A (l.map (.int .i64))) (hA : ∀ a, A = some a → a.block ≠ w) (hl : bs.length + 8 * l.length ≤ 90000) :
    FnK Try.prog 34 #[.pointer (some ⟨w, 0, none⟩), .int .i64 m, .slice A l.length c] F (fun v F' => WS F0 F' w (putAllM m bs l) ∧ Keeps F F' (some w)) := by
  (refine fn_walk tab_ok Try.func34 rfl rfl rfl rfl ?_; (conv => whnf))
  refine loop_slots [0, 1, 8, 9, 10] (fun k vs F' => ∃ j : Nat, j + k = l.length ∧ vs = [.pointer (some ⟨w, 0, none⟩), .int .i64 m, .slice A l.length c, .int .i64 (l.length : Int), .int .i64 (j : Int)] ∧ WS F0 F' w (putAllM m bs (l.take j)) ∧ Keeps F F' (some w)) l.length ⟨0, by omega, rfl, hw, fun _ _ h _ => h⟩ ?_
  rintro k vs F2 ρ ⟨j, hjk, rfl, hw2, hk2⟩
  have hm8 : m ≤ 8 := by rcases hm with rfl | rfl | rfl | rfl <;> decide
  (conv => whnf)
  refine cond_split (fun h => ?_) (fun h => ?_)
  · have hj : j < l.length := by have := of_decide_eq_true h; omega
    obtain ⟨ad, rfl⟩ := hr.some (by simp; omega)
    have hn : l[j]? = some l[j] := List.getElem?_eq_getElem hj
    have hr2 := row_keeps hr hA hk2
    have hlen := putAllM_len m (l.take j) bs
    rw [List.length_take] at hlen
    have hlen2 : (putAllM m bs (l.take j)).length ≤ 90000 := by
      have : m * min j l.length ≤ 8 * l.length := Nat.mul_le_mul hm8 (Nat.min_le_right _ _)
      omega
    obtain ⟨S, hS, hS0, hSm⟩ := hw2
    obtain ⟨B, cc, rfl, hcc, hB⟩ := hSm.own.row
    have hp := putG m hm (putAllM m bs (l.take j)) B cc l[j] F2 hB (by omega)
    have hst := putAllM_take m bs l j l[j] hn
    generalize putAllM m bs (l.take j) = cur at hp hst hSm hlen hlen2 hB hcc hS ⊢
    (conv => whnf)
    refine ⟨⟨by omega, by omega⟩, ?_⟩
    (conv => whnf)
    refine load_step (v := .int .i64 l[j]) ?_ ?_
    · show F2.cell? (ad.add (Int.toNat (j : Int) * 1)) = _
      rw [Int.toNat_natCast, Nat.mul_one]
      exact hr2.cell (by simp [hn])
    (conv => whnf)
    refine load_blk hS rfl rfl ?_
    (conv => whnf)
    refine call_of hp ?_
    rintro v F3 hv
    have hne : blk v ≠ some w := fun e => by have := hv.fresh w e; rw [hS] at this; cases this
    have hv0 := hv.down hSm.ext
    obtain ⟨B', c', rfl, _⟩ := hv.own.row
    have o1 : ∀ x ∈ [Value.slice B' (putM m cur l[j]).length c'], x.oneCell' = true := by
      intro x hx
      rw [List.mem_singleton.1 hx]
      rfl
    (conv => whnf)
    refine store_step w 0 _ #[.slice B' (putM m cur l[j]).length c'] rfl (hv.ext _ _ hS) rfl rfl (.inl (Nat.le_refl 0)) o1 ?_
    (conv => whnf)
    refine ⟨k - 1, by omega, j + 1, by omega, ?_, ?_, ?_⟩
    · have hw : IntKind.i64.wrap ((j : Int) + 1) = ((j + 1 : Nat) : Int) := by rw [IntKind.wrap_i64]; omega
      rw [← hw]
      rfl
    · rw [hst]
      exact ⟨_, Heap.put_same _ _ _, hS0, hv0.put hS0 hne _⟩
    · exact hk2.trans ((hv.ext.keeps _).trans (Keeps.put _ _ _))
  · have hj : j = l.length := by have := of_decide_eq_false h; omega
    subst hj
    rw [List.take_length] at hw2
    (conv => whnf)
    exact ⟨hw2, hk2⟩
theorem bit (b : Bool) (F : Heap) : FnK Try.prog 35 #[.bool b] F (fun v F' => v = .int .i64 (if b then 1 else 0) ∧ F' = F) := by
  cases b
  all_goals
    (refine fn_walk tab_ok Try.func35 rfl rfl rfl rfl ?_; (conv => whnf))
    exact ⟨rfl, rfl⟩
theorem rputL (m : Nat) (hm : Siz m) (bs : List UInt8) (v : Value) (l : List Int) (A : Option Addr) (c : Nat) (F : Heap) (hb : Bs F v bs) (hr : RowAt F A (l.map (.int .i64))) (hne : l ≠ []) (hl : bs.length + 8 * l.length ≤ 90000) :
    FnK Try.prog 42 #[v, .slice A l.length c, .int .i64 m] F (fun r F' => Mine F F' r 5 1 (putAllM m bs l).length (bytesOf (putAllM m bs l))) := by
  obtain ⟨A0, c0, rfl, h0, hb0⟩ := hb
  have hm8 : m ≤ 8 := by rcases hm with rfl | rfl | rfl | rfl <;> decide
  (refine fn_walk tab_ok Try.func42 rfl rfl rfl rfl ?_; (conv => whnf))
  refine loop_slots [0, 1, 2, 7] (fun k vs F' => ∃ (j : Nat) (s : Value), j + k = l.length ∧ vs = [s, .slice A l.length c, .int .i64 m, .int .i64 (j : Int)] ∧ Ext F F' ∧ Bs F' s (putAllM m bs (l.take j)) ∧ (0 < j → Mine F F' s 5 1 (putAllM m bs (l.take j)).length (bytesOf (putAllM m bs (l.take j))))) l.length ⟨0, _, by omega, rfl, Ext.refl F, ⟨A0, c0, rfl, h0, hb0⟩, fun h => by omega⟩ ?_
  rintro k vs F2 ρ ⟨j, s, hjk, rfl, hE2, hs, hs2⟩
  (conv => whnf)
  refine cond_split (fun h => ?_) (fun h => ?_)
  · have hj : j < l.length := by have := of_decide_eq_true h; omega
    obtain ⟨ad, rfl⟩ := hr.some (by simp; omega)
    have hn : l[j]? = some l[j] := List.getElem?_eq_getElem hj
    obtain ⟨B, cc, rfl, hcc, hB⟩ := hs
    have hr2 := hr.mono hE2
    have hlen := putAllM_len m (l.take j) bs
    rw [List.length_take] at hlen
    have hlen2 : (putAllM m bs (l.take j)).length ≤ 90000 := by
      have : m * min j l.length ≤ 8 * l.length := Nat.mul_le_mul hm8 (Nat.min_le_right _ _)
      omega
    have hp := rputG m hm (putAllM m bs (l.take j)) B cc l[j] F2 hB (by omega)
    have hst := putAllM_take m bs l j l[j] hn
    generalize putAllM m bs (l.take j) = cur at hp hst hlen hlen2 hB hcc hs2 ⊢
    (conv => whnf)
    refine ⟨⟨by omega, by omega⟩, ?_⟩
    (conv => whnf)
    refine load_step (v := .int .i64 l[j]) ?_ ?_
    · show F2.cell? (ad.add (Int.toNat (j : Int) * 1)) = _
      rw [Int.toNat_natCast, Nat.mul_one]
      exact hr2.cell (by simp [hn])
    (conv => whnf)
    refine call_of hp ?_
    rintro v F3 hv
    (conv => whnf)
    refine ⟨k - 1, by omega, j + 1, v, by omega, ?_, hE2.trans hv.ext, ?_, fun _ => ?_⟩
    · have hw : IntKind.i64.wrap ((j : Int) + 1) = ((j + 1 : Nat) : Int) := by rw [IntKind.wrap_i64]; omega
      rw [← hw]
      rfl
    · rw [hst]; exact Bs.of_mine hv
    · rw [hst]; exact hv.down hE2
  · have hj : j = l.length := by have := of_decide_eq_false h; omega
    subst hj
    rw [List.take_length] at hs2
    have := hs2 (List.length_pos_iff.2 hne)
    (conv => whnf)
    exact this
end Go.Proofs.Ytbgijjoemnfnmaa.Al
/- The contract of cmd.Encode, over what is known of memory. -/
namespace Go.Proofs.Ytbgijjoemnfnmaa.Al
open Go Go.Al Go.Proofs Go.RowKit
set_option maxHeartbeats 8000000
set_option maxRecDepth 100000
set_option linter.unusedVariables false
set_option linter.unusedSimpArgs false
def encL (e : List UInt8) (ls : List LD) : List UInt8 := ls.foldl (fun b q => putAllM 8 (putAllM 2 b [q.f, q.o, q.n]) [q.a]) e
def encH (c : CD) : List UInt8 := putAllM 8 (putAllM 1 (putAllM 4 (putAllM 2 (putAllM 1 [] [c.k]) [c.y, c.x, c.f, c.o, c.n, c.p]) [c.d]) [c.l]) [c.a]
def encM (c : CD) : List UInt8 := putAllM 1 (putAllM 1 (encH c) [if c.ab then 1 else 0, (c.nm.length : Int)] ++ c.nm) [(c.ls.length : Int)]
/-- A command's bytes. -/
def encB (c : CD) : List UInt8 := encL (encM c) c.ls
theorem encL_len : ∀ (ls : List LD) (e : List UInt8), (encL e ls).length ≤ e.length + 14 * ls.length := by
  intro ls
  induction ls with
  | nil => intro e; exact Nat.le_add_right _ _
  | cons q ls ih =>
    intro e
    have h1 := ih (putAllM 8 (putAllM 2 e [q.f, q.o, q.n]) [q.a])
    have h2 := putAllM_len 8 [q.a] (putAllM 2 e [q.f, q.o, q.n])
    have h3 := putAllM_len 2 [q.f, q.o, q.n] e
    simp only [List.length_cons, List.length_nil] at h1 h2 h3 ⊢
    show (encL (putAllM 8 (putAllM 2 e [q.f, q.o, q.n]) [q.a]) ls).length ≤ _
    omega
theorem encL_take (e : List UInt8) (ls : List LD) (j : Nat) (q : LD) (h : ls[j]? = some q) : encL e (ls.take (j + 1)) = putAllM 8 (putAllM 2 (encL e (ls.take j)) [q.f, q.o, q.n]) [q.a] := by
  unfold encL
  rw [List.take_add_one, h, Option.toList_some, List.foldl_append]
  rfl
theorem encH_len (c : CD) : (encH c).length ≤ 26 := by
  unfold encH
  have h1 := putAllM_len 1 [c.k] []
  have h2 := putAllM_len 2 [c.y, c.x, c.f, c.o, c.n, c.p] (putAllM 1 [] [c.k])
  have h3 := putAllM_len 4 [c.d] (putAllM 2 (putAllM 1 [] [c.k]) [c.y, c.x, c.f, c.o, c.n, c.p])
  have h4 := putAllM_len 1 [c.l] (putAllM 4 (putAllM 2 (putAllM 1 [] [c.k]) [c.y, c.x, c.f, c.o, c.n, c.p]) [c.d])
  have h5 := putAllM_len 8 [c.a] (putAllM 1 (putAllM 4 (putAllM 2 (putAllM 1 [] [c.k]) [c.y, c.x, c.f, c.o, c.n, c.p]) [c.d]) [c.l])
  simp only [List.length_cons, List.length_nil] at h1 h2 h3 h4 h5
  omega
theorem encM_len (c : CD) : (encM c).length ≤ 29 + c.nm.length := by
  unfold encM
  have h0 := encH_len c
  have h1 := putAllM_len 1 [if c.ab then 1 else 0, (c.nm.length : Int)] (encH c)
  have h2 := putAllM_len 1 [(c.ls.length : Int)] (putAllM 1 (encH c) [if c.ab then 1 else 0, (c.nm.length : Int)] ++ c.nm)
  rw [List.length_append] at h2
  simp only [List.length_cons, List.length_nil] at h1 h2
  omega
/-- One call of nums, with a row that was made for it. -/
theorem numsN (m : Nat) (hm : Siz m) (bs : List UInt8) (l : List Int) (F0 F : Heap) (w g : Nat) (hw : WS F0 F w bs) (hg : F g = none) (hl : bs.length + 8 * l.length ≤ 90000) :
    FnK Try.prog 34 #[.pointer (some ⟨w, 0, none⟩), .int .i64 m, .slice (some ⟨g, 0, none⟩) l.length l.length] (F.put g (.cells (l.map (Value.int .i64)).toArray 3)) (fun v F' => WS F0 F' w (putAllM m bs l)) := by
  have hwg : g ≠ w := fun e => by obtain ⟨S, h1, _⟩ := hw; rw [e, h1] at hg; cases hg
  refine (nums m hm bs l (some ⟨g, 0, none⟩) l.length F0 _ w (hw.mono (Ext.new hg _)) (row_new (Heap.put_same _ _ _)) (fun a ha => ?_) hl).mono fun v F' h => h.1
  cases ha
  exact hwg
theorem numsK (m : Nat) (hm : Siz m) (bs : List UInt8) (l : List Int) (F0 F : Heap) (w g : Nat) (hw : WS F0 F w bs) (hg : F g = none) (hl : bs.length + 8 * l.length ≤ 90000) :
    FnK Try.prog 34 #[.pointer (some ⟨w, 0, none⟩), .int .i64 m, .slice (some ⟨g, 0, none⟩) l.length l.length] (F.put g (.cells (l.map (Value.int .i64)).toArray 3)) (fun v F' => WS F0 F' w (putAllM m bs l) ∧ Keeps (F.put g (.cells (l.map (Value.int .i64)).toArray 3)) F' (some w)) := by
  have hwg : g ≠ w := fun e => by obtain ⟨S, h1, _⟩ := hw; rw [e, h1] at hg; cases hg
  refine nums m hm bs l (some ⟨g, 0, none⟩) l.length F0 _ w (hw.mono (Ext.new hg _)) (row_new (Heap.put_same _ _ _)) (fun a ha => ?_) hl
  cases ha
  exact hwg
theorem encode (k y x f o n p d l a : Int) (ab : Bool) (nm : List UInt8) (ls : List LD) (A : Option Addr) (c : Nat) (F : Heap) (hr : RowAt F A (linesV ls)) (hn : nm.length ≤ 100000) (hl : ls.length ≤ 10000) :
    FnK Try.prog 20 #[.agg (cmdC k y x f o n p d l a ab ⟨nm.toArray⟩ (.slice A ls.length c))] F (fun v F' => (∃ r, v = .tuple #[r, .int .i64 (if mayB ⟨k, y, x, f, o, n, p, d, l, a, ab, nm, ls⟩ then 0 else 1)] ∧ Bs F' r (if mayB ⟨k, y, x, f, o, n, p, d, l, a, ab, nm, ls⟩ then encB ⟨k, y, x, f, o, n, p, d, l, a, ab, nm, ls⟩ else [])) ∧ Ext F F') := by
  have hm := mayB_iff ⟨k, y, x, f, o, n, p, d, l, a, ab, nm, ls⟩
  have c1 := fun G hg => may k y x f o n p d l a ab nm ls A c G hg hn hl
  generalize mayB ⟨k, y, x, f, o, n, p, d, l, a, ab, nm, ls⟩ = q at hm c1 ⊢
  (refine fn_walk tab_ok Try.func20 rfl rfl rfl rfl ?_; (conv => whnf))
  refine new_step (cmdO k y x f o n p d l a ab ⟨nm.toArray⟩ (.slice A ls.length c)) rfl fun b hb => ?_
  have hE := Ext.new hb (cmdO k y x f o n p d l a ab ⟨nm.toArray⟩ (.slice A ls.length c))
  have hB := Heap.put_same F b (cmdO k y x f o n p d l a ab ⟨nm.toArray⟩ (.slice A ls.length c))
  generalize F.put b _ = F1 at hE hB ⊢
  (conv => whnf)
  refine ⟨⟨_, _, _, hB, rfl, Nat.le_refl 13, ?_⟩⟩
  (conv => whnf)
  refine call_of (c1 F1 (hr.mono hE)) ?_
  rintro v F2 ⟨rfl, hE2⟩
  have hB2 := hE2 _ _ hB
  replace hE2 := hE.trans hE2
  cases q with
  | false =>
    (conv => whnf)
    exact ⟨⟨_, rfl, Bs.nil _⟩, hE2⟩
  | true =>
  obtain ⟨_, n255, l255, _⟩ := hm.1 rfl
  dsimp only at n255 l255
  clear hm c1
  have hr2 := hr.mono hE2
  (conv => whnf)
  refine new_step (writerO (.slice none 0 0)) rfl fun w hw => ?_
  have hW : WS F2 (F2.put w (writerO (.slice none 0 0))) w [] := ⟨_, Heap.put_same _ _ _, hw, Mine.nil _ _ _ _ (Ext.new hw _)⟩
  generalize F2.put w _ = F3 at hW ⊢
  clear hw
  have b1 := putAllM_len 1 [k] []
  have b2 := putAllM_len 2 [y, x, f, o, n, p] (putAllM 1 [] [k])
  have b3 := putAllM_len 4 [d] (putAllM 2 (putAllM 1 [] [k]) [y, x, f, o, n, p])
  have b4 := putAllM_len 1 [l] (putAllM 4 (putAllM 2 (putAllM 1 [] [k]) [y, x, f, o, n, p]) [d])
  have b5 := encH_len ⟨k, y, x, f, o, n, p, d, l, a, ab, nm, ls⟩
  have b6 := encM_len ⟨k, y, x, f, o, n, p, d, l, a, ab, nm, ls⟩
  have b7 := putAllM_len 1 [if ab then 1 else 0, (nm.length : Int)] (encH ⟨k, y, x, f, o, n, p, d, l, a, ab, nm, ls⟩)
  have hM : encM ⟨k, y, x, f, o, n, p, d, l, a, ab, nm, ls⟩ = putAllM 1 (putAllM 1 (encH ⟨k, y, x, f, o, n, p, d, l, a, ab, nm, ls⟩) [if ab then 1 else 0, (nm.length : Int)] ++ nm) [(ls.length : Int)] := rfl
  have hH : encH ⟨k, y, x, f, o, n, p, d, l, a, ab, nm, ls⟩ = putAllM 8 (putAllM 1 (putAllM 4 (putAllM 2 (putAllM 1 [] [k]) [y, x, f, o, n, p]) [d]) [l]) [a] := rfl
  have hEB : encB ⟨k, y, x, f, o, n, p, d, l, a, ab, nm, ls⟩ = encL (encM ⟨k, y, x, f, o, n, p, d, l, a, ab, nm, ls⟩) ls := rfl
  generalize encB ⟨k, y, x, f, o, n, p, d, l, a, ab, nm, ls⟩ = eB at hEB ⊢
  generalize encM ⟨k, y, x, f, o, n, p, d, l, a, ab, nm, ls⟩ = eM at hM b6 hEB
  generalize encH ⟨k, y, x, f, o, n, p, d, l, a, ab, nm, ls⟩ = eH at hM hH b5 b7
  simp only [List.length_cons, List.length_nil] at b1 b2 b3 b4 b5 b6 b7
  (conv => whnf)
  refine load_blk (hW.ext _ _ hB2) rfl rfl ?_
  (conv => whnf)
  refine new_step (.cells (([k] : List Int).map (Value.int .i64)).toArray 3) rfl fun g hg => ?_
  (conv => whnf)
  refine call_of (numsN 1 (.inl rfl) [] [k] F2 _ w g hW hg (by simp only [List.length_cons, List.length_nil]; omega)) ?_
  clear hW hg
  rintro v F4 hW
  refine short [1, 4] [.pointer (some ⟨b, 0, none⟩), .pointer (some ⟨w, 0, none⟩)] rfl fun ρ => ?_
  (conv => whnf)
  refine load_blk (hW.ext _ _ hB2) rfl rfl ?_
  (conv => whnf)
  refine load_blk (hW.ext _ _ hB2) rfl rfl ?_
  (conv => whnf)
  refine load_blk (hW.ext _ _ hB2) rfl rfl ?_
  (conv => whnf)
  refine load_blk (hW.ext _ _ hB2) rfl rfl ?_
  (conv => whnf)
  refine load_blk (hW.ext _ _ hB2) rfl rfl ?_
  (conv => whnf)
  refine load_blk (hW.ext _ _ hB2) rfl rfl ?_
  (conv => whnf)
  refine new_step (.cells (([y, x, f, o, n, p] : List Int).map (Value.int .i64)).toArray 3) rfl fun g hg => ?_
  (conv => whnf)
  refine call_of (numsN 2 (.inr (.inl rfl)) (putAllM 1 [] [k]) [y, x, f, o, n, p] F2 _ w g hW hg (by simp only [List.length_cons, List.length_nil]; omega)) ?_
  clear hW hg
  rintro v F5 hW
  refine short [1, 4] [.pointer (some ⟨b, 0, none⟩), .pointer (some ⟨w, 0, none⟩)] rfl fun ρ => ?_
  (conv => whnf)
  refine load_blk (hW.ext _ _ hB2) rfl rfl ?_
  (conv => whnf)
  refine new_step (.cells (([d] : List Int).map (Value.int .i64)).toArray 3) rfl fun g hg => ?_
  (conv => whnf)
  refine call_of (numsN 4 (.inr (.inr (.inl rfl))) (putAllM 2 (putAllM 1 [] [k]) [y, x, f, o, n, p]) [d] F2 _ w g hW hg (by simp only [List.length_cons, List.length_nil]; omega)) ?_
  clear hW hg
  rintro v F6 hW
  (conv => whnf)
  refine load_blk (hW.ext _ _ hB2) rfl rfl ?_
  (conv => whnf)
  refine new_step (.cells (([l] : List Int).map (Value.int .i64)).toArray 3) rfl fun g hg => ?_
  (conv => whnf)
  refine call_of (numsN 1 (.inl rfl) (putAllM 4 (putAllM 2 (putAllM 1 [] [k]) [y, x, f, o, n, p]) [d]) [l] F2 _ w g hW hg (by simp only [List.length_cons, List.length_nil]; omega)) ?_
  clear hW hg
  rintro v F7 hW
  (conv => whnf)
  refine load_blk (hW.ext _ _ hB2) rfl rfl ?_
  (conv => whnf)
  refine new_step (.cells (([a] : List Int).map (Value.int .i64)).toArray 3) rfl fun g hg => ?_
  (conv => whnf)
  refine call_of (numsN 8 (.inr (.inr (.inr rfl))) (putAllM 1 (putAllM 4 (putAllM 2 (putAllM 1 [] [k]) [y, x, f, o, n, p]) [d]) [l]) [a] F2 _ w g hW hg (by simp only [List.length_cons, List.length_nil]; omega)) ?_
  clear hW hg
  rintro v F8 hW
  rw [← hH] at hW
  refine short [1, 4] [.pointer (some ⟨b, 0, none⟩), .pointer (some ⟨w, 0, none⟩)] rfl fun ρ => ?_
  (conv => whnf)
  refine draw_walk tab_ok (by kernel_rfl) [0, 1, 2, 4, 5, 6, 3, 7, 8] (by kernel_rfl) ?_
  (conv => whnf)
  refine load_blk (hW.ext _ _ hB2) rfl rfl ?_
  (conv => whnf)
  refine load_blk (hW.ext _ _ hB2) rfl rfl ?_
  (conv => whnf)
  refine call_of (bit ab _) ?_
  rintro v F8 ⟨rfl, rfl⟩
  refine ⟨Ext.refl _, ?_⟩
  generalize hbit : (if ab then (1 : Int) else 0) = bi at b7 hM
  (conv => whnf)
  refine new_step (.cells (([bi, (nm.length : Int)] : List Int).map (Value.int .i64)).toArray 3) rfl fun g hg => ?_
  (conv => whnf)
  refine call_of (numsN 1 (.inl rfl) eH [bi, (nm.length : Int)] F2 _ w g hW hg (by simp only [List.length_cons, List.length_nil]; omega)) ?_
  clear hW hg
  rintro v F9 hW
  generalize putAllM 1 eH [bi, (nm.length : Int)] = e6 at hW b7 hM
  refine short [1, 4] [.pointer (some ⟨b, 0, none⟩), .pointer (some ⟨w, 0, none⟩)] rfl fun ρ => ?_
  obtain ⟨S, hS, hS0, hSm⟩ := hW
  have hBS := hSm.ext _ _ hB2
  (conv => whnf)
  refine draw_walk tab_ok (by kernel_rfl) [0, 1, 2, 3, 4, 5, 6, 7, 8, 9, 10] (by kernel_rfl) ?_
  (conv => whnf)
  refine load_blk hS rfl rfl ?_
  (conv => whnf)
  refine load_blk hBS rfl rfl ?_
  (conv => whnf)
  refine append_mine tab_ok (m := nm.length) (ys := bytesOf nm) (y := .string ⟨nm.toArray⟩) rfl rfl rfl rfl rfl ⟨_, rfl, fun k h => by cases h⟩ ⟨_, rfl, rfl⟩ (by decide) hSm ⟨by simp [bytesOf], .inr ⟨_, rfl, rfl, by show nm.length = nm.toArray.size; simp, by simp [bytesOf]⟩⟩ (hone_bytes nm) (by show 2 * (e6.length + nm.length) * 1 ≤ _; omega) fun s' F10 hs' hkp => ?_
  have hSw := hSm.own.blk_ne hS u8_writer
  have hS10 := hkp _ _ hS hSw
  have hs2 : Mine F2 F10 s' 5 1 (e6 ++ nm).length (bytesOf (e6 ++ nm)) := by
    rw [List.length_append, bytes_app]; exact hs'
  clear hs'
  have hsw := hs2.own.blk_ne hS10 u8_writer
  obtain ⟨B', c', rfl, _⟩ := hs2.own.row
  have o1 : ∀ x ∈ [Value.slice B' (e6 ++ nm).length c'], x.oneCell' = true := by
    intro x hx
    rw [List.mem_singleton.1 hx]
    rfl
  (conv => whnf)
  refine store_step w 0 _ #[.slice B' (e6 ++ nm).length c'] rfl hS10 rfl rfl (.inl (Nat.le_refl 0)) o1 ?_
  have hW : WS F2 (F10.put w (writerO (.slice B' (e6 ++ nm).length c'))) w (e6 ++ nm) := ⟨_, Heap.put_same _ _ _, hS0, hs2.put hS0 hsw _⟩
  generalize F10.put w _ = F11 at hW ⊢
  clear hs2 hsw hS10 hkp hSw hSm hS hBS o1
  have b8 : (e6 ++ nm).length = e6.length + nm.length := List.length_append
  generalize e6 ++ nm = e7 at hW b8 hM
  (conv => whnf)
  refine load_blk (hW.ext _ _ hB2) rfl rfl ?_
  (conv => whnf)
  refine new_step (.cells (([(ls.length : Int)] : List Int).map (Value.int .i64)).toArray 3) rfl fun g hg => ?_
  (conv => whnf)
  refine call_of (numsN 1 (.inl rfl) e7 [(ls.length : Int)] F2 _ w g hW hg (by simp only [List.length_cons, List.length_nil]; omega)) ?_
  clear hW hg
  rintro v F12 hW
  rw [← hM] at hW
  refine short [1, 4] [.pointer (some ⟨b, 0, none⟩), .pointer (some ⟨w, 0, none⟩)] rfl fun ρ => ?_
  (conv => whnf)
  refine load_blk (hW.ext _ _ hB2) rfl rfl ?_
  (conv => whnf)
  refine loop_slots [4, 73, 74, 75] (fun mm vs F' => ∃ j : Nat, j + mm = ls.length ∧ vs = [.pointer (some ⟨w, 0, none⟩), .slice A ls.length c, .int .i64 (ls.length : Int), .int .i64 (j : Int)] ∧ WS F2 F' w (encL eM (ls.take j))) ls.length ⟨0, by omega, rfl, hW⟩ ?_
  clear hW
  rintro m vs F13 ρ ⟨j, hjm, rfl, hW⟩
  have bj := encL_len (ls.take j) eM
  rw [List.length_take] at bj
  (conv => whnf)
  refine cond_split (fun h => ?_) (fun h => ?_)
  · have hj : j < ls.length := by have := of_decide_eq_true h; omega
    obtain ⟨ad, rfl⟩ := hr.some (by rw [linesV_len]; omega)
    have hx : ls[j]? = some ls[j] := List.getElem?_eq_getElem hj
    have ht := encL_take eM ls j _ hx
    have hLr := fun (K : Value → Prop) => line_load (K := K) (hr2.mono hW.ext) hj
    have hja : ad.add (Int.toNat (j : Int) * 4) = ad.add (j * 4) := by rw [Int.toNat_natCast]
    rw [← hja] at hLr
    generalize ls[j] = q at ht hLr
    obtain ⟨wf, wo, wn, wa⟩ := q
    dsimp only at ht hLr
    have bj2 : (encL eM (ls.take j)).length ≤ 10000 := by
      have := Nat.min_le_right j ls.length
      omega
    have bj3 := putAllM_len 2 [wf, wo, wn] (encL eM (ls.take j))
    simp only [List.length_cons, List.length_nil] at bj3
    generalize encL eM (ls.take j) = cur at hW ht bj2 bj3
    (conv => whnf)
    refine ⟨⟨by omega, by omega⟩, ?_⟩
    (conv => whnf)
    refine hLr _ ?_
    (conv => whnf)
    refine new_step (lineO 0 0 0 0) rfl fun u hu => ?_
    have hU := Heap.put_same F13 u (lineO 0 0 0 0)
    have hEu : ∀ o, Ext F13 ((F13.put u (lineO 0 0 0 0)).put u o) := fun o => ext_put_put hu
    generalize F13.put u _ = F14 at hU hEu ⊢
    have o1 : ∀ v ∈ [Value.int .i64 wf, .int .i64 wo, .int .i64 wn, .int .i64 wa], v.oneCell' = true := by simp [Value.oneCell']
    (conv => whnf)
    refine store_step u 0 _ #[.int .i64 wf, .int .i64 wo, .int .i64 wn, .int .i64 wa] rfl hU rfl rfl (.inl (Nat.le_refl 0)) o1 ?_
    have hU15 := Heap.put_same F14 u (lineO wf wo wn wa)
    have hW15 := hW.mono (hEu (lineO wf wo wn wa))
    have huw : u ≠ w := fun e => by obtain ⟨S, h1, _⟩ := hW; rw [e, h1] at hu; cases hu
    generalize F14.put u _ = F15 at hU15 hW15 ⊢
    refine short [4, 6, 73, 74, 75] [.pointer (some ⟨w, 0, none⟩), .pointer (some ⟨u, 0, none⟩), .slice (some ad) ls.length c, .int .i64 (ls.length : Int), .int .i64 (j : Int)] rfl fun ρ => ?_
    (conv => whnf)
    refine load_blk hU15 rfl rfl ?_
    (conv => whnf)
    refine load_blk hU15 rfl rfl ?_
    (conv => whnf)
    refine load_blk hU15 rfl rfl ?_
    (conv => whnf)
    refine new_step (.cells (([wf, wo, wn] : List Int).map (Value.int .i64)).toArray 3) rfl fun g hg => ?_
    (conv => whnf)
    refine call_of (numsK 2 (.inr (.inl rfl)) cur [wf, wo, wn] F2 _ w g hW15 hg (by simp only [List.length_cons, List.length_nil]; omega)) ?_
    rintro v F16 ⟨hW16, hk16⟩
    have hU16 := hk16 _ _ ((Ext.new hg _) _ _ hU15) (fun e => huw (Option.some.inj e).symm)
    (conv => whnf)
    refine load_blk hU16 rfl rfl ?_
    (conv => whnf)
    refine new_step (.cells (([wa] : List Int).map (Value.int .i64)).toArray 3) rfl fun g hg => ?_
    (conv => whnf)
    refine call_of (numsN 8 (.inr (.inr (.inr rfl))) (putAllM 2 cur [wf, wo, wn]) [wa] F2 _ w g hW16 hg (by simp only [List.length_cons, List.length_nil]; omega)) ?_
    rintro v F17 hW17
    (conv => whnf)
    refine ⟨m - 1, by omega, j + 1, by omega, ?_, ?_⟩
    · have hw : IntKind.i64.wrap ((j : Int) + 1) = ((j + 1 : Nat) : Int) := by rw [IntKind.wrap_i64]; omega
      rw [← hw]
      rfl
    · rw [ht]; exact hW17
  · have hj : j = ls.length := by have := of_decide_eq_false h; omega
    subst hj
    rw [List.take_length, ← hEB] at hW
    obtain ⟨S, hS, hS0, hSm⟩ := hW
    (conv => whnf)
    refine load_blk hS rfl rfl ?_
    (conv => whnf)
    exact ⟨⟨S, rfl, Bs.of_mine hSm⟩, hE2.trans hSm.ext⟩
end Go.Proofs.Ytbgijjoemnfnmaa.Al

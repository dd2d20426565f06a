/- Numbers and their bytes, in plain words: one, two, four or eight bytes, the highest first. -/
import Derived.Test.YtlkdbmoocajjlaaAlData
namespace Go.Al
open Go Go.RowKit

def bytesOf (l : List UInt8) : List Value := l.map fun x => .int .u8 x.toNat
/-- The byte of n that stands k bytes ahead of the last. -/
def byteAt (n : Int) (k : Nat) : UInt8 := UInt8.ofNat ((n % 18446744073709551616).toNat / 256 ^ k)
def beM : Nat → Int → List UInt8
  | 0, _ => []
  | m + 1, n => byteAt n m :: beM m n
def inM (m : Nat) (n : Int) : Bool := bif Nat.beq m 8 then true else decide (0 ≤ n) && decide (n < (256 ^ m : Nat))
def putM (m : Nat) (l : List UInt8) (n : Int) : List UInt8 := bif inM m n then l ++ beM m n else l
abbrev Siz (m : Nat) : Prop := m = 1 ∨ m = 2 ∨ m = 4 ∨ m = 8
theorem beM_len : ∀ (m : Nat) (n : Int), (beM m n).length = m := by
  intro m
  induction m with
  | zero => intro n; rfl
  | succ m ih => intro n; show (beM m n).length + 1 = m + 1; rw [ih]
theorem beM_at : ∀ (m : Nat) (n : Int) (j : Nat), j < m → (beM m n)[j]? = some (byteAt n (m - 1 - j)) := by
  intro m
  induction m with
  | zero => intro n j h; omega
  | succ m ih =>
    intro n j h
    cases j with
    | zero => rfl
    | succ j =>
      rw [show beM (m + 1) n = byteAt n m :: beM m n from rfl, List.getElem?_cons_succ, ih n j (by omega)]
      congr 2
      omega
theorem beM_take {m : Nat} {n : Int} {j : Nat} (h : j < m) : (beM m n).take (j + 1) = (beM m n).take j ++ [byteAt n (m - 1 - j)] := by
  rw [List.take_add_one, beM_at m n j h]
  rfl
theorem putM_len (m : Nat) (l : List UInt8) (n : Int) : (putM m l n).length ≤ l.length + m := by
  unfold putM
  cases inM m n with
  | false => exact Nat.le_add_right _ _
  | true => rw [cond_true, List.length_append, beM_len]; exact Nat.le_refl _
theorem byteAt_int (n : Int) (k : Nat) (hk : k ≤ 7) : ((byteAt n k).toNat : Int) = n / (256 ^ k : Nat) % 256 := by
  unfold byteAt
  rw [UInt8.toNat_ofNat']
  have h : k = 0 ∨ k = 1 ∨ k = 2 ∨ k = 3 ∨ k = 4 ∨ k = 5 ∨ k = 6 ∨ k = 7 := by omega
  rcases h with rfl | rfl | rfl | rfl | rfl | rfl | rfl | rfl
  all_goals
    simp only [Nat.reducePow]
    omega
theorem u8_wrap (z : Int) : IntKind.u8.wrap z = z % 256 := by
  simp only [IntKind.wrap, IntKind.signed, IntKind.bits]
  simp
theorem u64_wrap (z : Int) : IntKind.u64.wrap z = z % 18446744073709551616 := by
  simp only [IntKind.wrap, IntKind.signed, IntKind.bits]
  simp
theorem shift_pow (s : Int) (k : Nat) (hs : s = 8 * k) (hk : k ≤ 7) : ((2 : Int) ^ min s.toNat 64) = ((256 ^ k : Nat) : Int) := by
  have h : k = 0 ∨ k = 1 ∨ k = 2 ∨ k = 3 ∨ k = 4 ∨ k = 5 ∨ k = 6 ∨ k = 7 := by omega
  subst hs
  rcases h with rfl | rfl | rfl | rfl | rfl | rfl | rfl | rfl <;> decide
theorem byte_u (n : Int) (s : Int) (k : Nat) (hs : s = 8 * k) (hk : k ≤ 7) : IntKind.u8.wrap ((IntKind.u64.wrap n).fdiv (2 ^ min s.toNat 64)) = ((byteAt n k).toNat : Int) := by
  rw [shift_pow s k hs hk, u64_wrap, Int.fdiv_eq_ediv_of_nonneg _ (Int.natCast_nonneg _), u8_wrap]
  unfold byteAt
  rw [UInt8.toNat_ofNat']
  have h0 : 0 ≤ n % 18446744073709551616 := Int.emod_nonneg _ (by decide)
  obtain ⟨N, hN⟩ := Int.eq_ofNat_of_zero_le h0
  rw [hN]
  simp
theorem byte_i (n : Int) (s : Int) (k : Nat) (hs : s = 8 * k) (hk : k ≤ 7) : IntKind.u8.wrap (n.fdiv (2 ^ min s.toNat 64)) = ((byteAt n k).toNat : Int) := by
  rw [shift_pow s k hs hk, Int.fdiv_eq_ediv_of_nonneg _ (Int.natCast_nonneg _), u8_wrap, byteAt_int n k hk]

/-- The number that bytes are. -/
def gB (l : List UInt8) : Nat := l.foldl (fun n x => n * 256 + x.toNat) 0
def getV (l : List UInt8) : Int := IntKind.i64.wrap ((gB l : Nat) : Int)
theorem gB_go : ∀ (l : List UInt8) (n : Nat), l.foldl (fun n x => n * 256 + x.toNat) n = n * 256 ^ l.length + gB l := by
  intro l
  induction l with
  | nil => intro n; simp [gB]
  | cons x l ih =>
    intro n
    unfold gB
    rw [List.foldl_cons, List.foldl_cons, ih, ih, List.length_cons, Nat.pow_succ, Nat.add_mul, Nat.zero_mul, Nat.zero_add, Nat.mul_assoc, Nat.mul_comm 256, Nat.add_assoc]
theorem gB_cons (x : UInt8) (l : List UInt8) : gB (x :: l) = x.toNat * 256 ^ l.length + gB l := by
  show (l.foldl _ (0 * 256 + x.toNat)) = _
  rw [gB_go, Nat.zero_mul, Nat.zero_add]
theorem gB_lt : ∀ (l : List UInt8), gB l < 256 ^ l.length := by
  intro l
  induction l with
  | nil => exact Nat.one_pos
  | cons x l ih =>
    rw [gB_cons, List.length_cons, Nat.pow_succ]
    have hx := x.toNat_lt
    have h1 : x.toNat * 256 ^ l.length ≤ 255 * 256 ^ l.length := Nat.mul_le_mul_right _ (by omega)
    omega
theorem gB_step (l : List UInt8) (j : Nat) (x : UInt8) (hx : l[j]? = some x) : gB (l.take (j + 1)) = gB (l.take j) * 256 + x.toNat := by
  unfold gB
  rw [List.take_add_one, hx, Option.toList_some, List.foldl_append]
  rfl
theorem gB_beM : ∀ (m : Nat) (n : Int), gB (beM m n) = (n % 18446744073709551616).toNat % 256 ^ m := by
  intro m
  induction m with
  | zero => intro n; rw [Nat.pow_zero, Nat.mod_one]; rfl
  | succ m ih =>
    intro n
    rw [show beM (m + 1) n = byteAt n m :: beM m n from rfl, gB_cons, beM_len, ih]
    unfold byteAt
    rw [UInt8.toNat_ofNat']
    have := Nat.mod_pow_succ (x := (n % 18446744073709551616).toNat) (b := 256) (k := m)
    rw [this]
    show (n % 18446744073709551616).toNat / 256 ^ m % 256 * 256 ^ m + _ = _
    rw [Nat.mul_comm, Nat.add_comm]
theorem getV_nat {l : List UInt8} (h : l.length ≤ 4) : getV l = ((gB l : Nat) : Int) := by
  have h1 := gB_lt l
  have h2 : 256 ^ l.length ≤ 256 ^ 4 := Nat.pow_le_pow_right (by decide) h
  unfold getV
  rw [IntKind.wrap_i64]
  omega
theorem getV_back {m : Nat} {n : Int} (hm : Siz m) (h : inM m n = true) (h0 : -9223372036854775808 ≤ n) (h1 : n < 9223372036854775808) : getV (beM m n) = n := by
  unfold getV
  rw [gB_beM, IntKind.wrap_i64]
  unfold inM at h
  rcases hm with rfl | rfl | rfl | rfl
  · simp at h; omega
  · simp at h; omega
  · simp at h; omega
  · simp only [Nat.reducePow]; omega
theorem or_nat8 (n : Nat) (x : UInt8) : n * 256 ||| x.toNat = n * 256 + x.toNat := by
  have := Nat.shiftLeft_add_eq_or_of_lt (b := x.toNat) (i := 8) x.toNat_lt n
  rw [Nat.shiftLeft_eq] at this
  exact this.symm
theorem or_u (n : Nat) (x : UInt8) (hn : n < 72057594037927936) : IntKind.u64.wrap ((BitVec.ofInt IntKind.u64.bits (IntKind.u64.wrap ((n : Int) * 2 ^ min (8 : Int).toNat IntKind.u64.bits)) ||| BitVec.ofInt IntKind.u64.bits (IntKind.u64.wrap (x.toNat : Int))).toNat : Int) = ((n * 256 + x.toNat : Nat) : Int) := by
  have hx := x.toNat_lt
  have e1 : IntKind.u64.wrap ((n : Int) * 2 ^ min (8 : Int).toNat IntKind.u64.bits) = ((n * 256 : Nat) : Int) := by
    rw [show ((2 : Int) ^ min (8 : Int).toNat IntKind.u64.bits) = 256 by decide, u64_wrap]
    omega
  have e2 : IntKind.u64.wrap (x.toNat : Int) = (x.toNat : Int) := by
    rw [u64_wrap]
    omega
  rw [e1, e2, BitVec.toNat_or, BitVec.ofInt_natCast, BitVec.ofInt_natCast, BitVec.toNat_ofNat, BitVec.toNat_ofNat]
  rw [Nat.mod_eq_of_lt (by show n * 256 < 2 ^ 64; omega), Nat.mod_eq_of_lt (by show x.toNat < 2 ^ 64; omega), or_nat8, u64_wrap]
  omega
theorem ofInt_wrap (z : Int) : BitVec.ofInt 64 (IntKind.i64.wrap z) = BitVec.ofInt 64 z := by
  apply BitVec.eq_of_toNat_eq
  rw [BitVec.toNat_ofInt, BitVec.toNat_ofInt, IntKind.wrap_i64]
  omega
theorem or_i (n : Nat) (x : UInt8) (hn : n < 72057594037927936) : IntKind.i64.wrap ((BitVec.ofInt IntKind.i64.bits (IntKind.i64.wrap ((n : Int) * 2 ^ min (8 : Int).toNat IntKind.i64.bits)) ||| BitVec.ofInt IntKind.i64.bits (IntKind.i64.wrap (x.toNat : Int))).toNat : Int) = IntKind.i64.wrap ((n * 256 + x.toNat : Nat) : Int) := by
  have hx := x.toNat_lt
  have e0 : ((n : Int) * 2 ^ min (8 : Int).toNat IntKind.i64.bits) = ((n * 256 : Nat) : Int) := by
    rw [show ((2 : Int) ^ min (8 : Int).toNat IntKind.i64.bits) = 256 by decide]
    omega
  rw [e0]
  show IntKind.i64.wrap ((BitVec.ofInt 64 (IntKind.i64.wrap ((n * 256 : Nat) : Int)) ||| BitVec.ofInt 64 (IntKind.i64.wrap (x.toNat : Int))).toNat : Int) = _
  rw [ofInt_wrap, ofInt_wrap, BitVec.toNat_or, BitVec.ofInt_natCast, BitVec.ofInt_natCast, BitVec.toNat_ofNat, BitVec.toNat_ofNat]
  rw [Nat.mod_eq_of_lt (by show n * 256 < 2 ^ 64; omega), Nat.mod_eq_of_lt (by show x.toNat < 2 ^ 64; omega), or_nat8]
end Go.Al

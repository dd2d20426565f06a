/- Keys of one tag stand as their numbers do: four bytes each, the greatest first, stand as the number does. -/
import Derived.Test.YtkahpaipciooiabPKeysOrdery
import Derived.OpenShut
import Derived.Lib.Bytes
import Derived.Laws.BitsLemmas
namespace Go.Proofs.Ytkahpaipciooiab.Pure
open Go.RowKit Go.Proofs.Ytkahpaipciooiab.PKeysOrder Go.Proofs.YtkahpaipciooiabW.PrintWords Go.Proofs.YtkahpaipciooiabW.PrintLast Go.Proofs.YtkahpaipciooiabW.PrintMore Go Go Go Go
/-! ### bytes, big-endian numbers -/
def IsBytes (l : List Int) : Prop := ∀ x ∈ l, 0 ≤ x ∧ x < 256
theorem IsBytes.nil : IsBytes [] := fun x h => by cases h
theorem IsBytes.append {l m : List Int} (h : IsBytes l) (g : IsBytes m) : IsBytes (l ++ m) := fun x hx => (List.mem_append.1 hx).elim (h x) (g x)
theorem IsBytes.left {l m : List Int} (h : IsBytes (l ++ m)) : IsBytes l := fun x hx => h x (List.mem_append.2 (.inl hx))
theorem IsBytes.one {b : Int} (h : 0 ≤ b ∧ b < 256) : IsBytes [b] := fun x hx => by rw [List.mem_singleton.1 hx]; exact h
theorem IsBytes.take {l : List Int} (h : IsBytes l) (n : Nat) : IsBytes (l.take n) := fun x hx => h x (List.mem_of_mem_take hx)
theorem IsBytes.drop {l : List Int} (h : IsBytes l) (n : Nat) : IsBytes (l.drop n) := fun x hx => h x (List.mem_of_mem_drop hx)
theorem IsBytes.of_wf {l : List Int} (h : ∀ x ∈ l, (Lit.int .u8 x).wf = true) : IsBytes l := fun x hx => by have := bounds_u8 (h x hx); omega
theorem IsBytes.replicate (n : Nat) : IsBytes (List.replicate n 0) := fun x hx => by rw [List.eq_of_mem_replicate hx]; decide
def be (n : Int) : Nat → List Int
  | 0 => []
  | s + 1 => be (n / 256) s ++ [n % 256]
theorem be_length : ∀ (s : Nat) (n : Int), (be n s).length = s
  | 0, _ => rfl
  | s + 1, n => by rw [be, List.length_append, be_length s]; rfl
theorem be_bytes : ∀ (s : Nat) (n : Int), IsBytes (be n s)
  | 0, _ => IsBytes.nil
  | s + 1, n => by rw [be]; exact (be_bytes s _).append (IsBytes.one (by omega))
theorem be_front : ∀ (s : Nat) (n : Int), be n (s + 1) = (n / 256 ^ s % 256) :: be n s
  | 0, n => by simp [be]
  | s + 1, n => by
    rw [be, be_front s (n / 256), be]
    rw [Int.ediv_ediv_of_nonneg (show (0 : Int) ≤ 256 by decide), show (256 : Int) * 256 ^ s = 256 ^ (s + 1) by rw [Int.pow_succ, Int.mul_comm]]
    rfl
def beval (l : List Int) : Int := l.foldl (fun a b => a * 256 + b) 0
theorem beval_nil : beval [] = 0 := rfl
theorem beval_snoc (l : List Int) (b : Int) : beval (l ++ [b]) = beval l * 256 + b := by simp [beval]
theorem beval_be : ∀ (s : Nat) (n : Int), beval (be n s) = n % 256 ^ s
  | 0, n => by simp [be, beval, Int.emod_one]
  | s + 1, n => by
    rw [be, beval_snoc, beval_be s]
    have h1 : (0 : Int) < 256 ^ s := Int.pow_pos (by decide)
    have h2 : n % (256 ^ (s + 1)) = n % 256 + 256 * (n / 256 % 256 ^ s) := by
      rw [show (256 : Int) ^ (s + 1) = 256 * 256 ^ s by rw [Int.pow_succ, Int.mul_comm], Int.emod_def n (256 * 256 ^ s), Int.emod_def (n / 256), ← Int.ediv_ediv_of_nonneg (show (0 : Int) ≤ 256 by decide), Int.mul_assoc]
      omega
    rw [h2]
    omega
theorem snoc_ind {P : List Int → Prop} (h0 : P []) (h1 : ∀ l b, P l → P (l ++ [b])) (l : List Int) : P l := by
  have h : ∀ m : List Int, P m.reverse := by
    intro m
    induction m with
    | nil => exact h0
    | cons b m ih => rw [List.reverse_cons]; exact h1 _ _ ih
  have := h l.reverse
  rwa [List.reverse_reverse] at this
theorem beval_bound (l : List Int) (h : IsBytes l) : 0 ≤ beval l ∧ beval l < 256 ^ l.length := by
  revert h
  refine snoc_ind (P := fun l => IsBytes l → 0 ≤ beval l ∧ beval l < 256 ^ l.length) ?_ ?_ l
  · intro _; simp [beval]
  · intro l' b ih h
    have ih := ih h.left
    have hb := h b (by simp)
    rw [beval_snoc, List.length_append, List.length_singleton, Int.pow_succ]
    generalize (256 : Int) ^ l'.length = p at ih
    omega
theorem be_beval (l : List Int) (h : IsBytes l) : be (beval l) l.length = l := by
  revert h
  refine snoc_ind (P := fun l => IsBytes l → be (beval l) l.length = l) ?_ ?_ l
  · intro _; rfl
  · intro l' b ih h
    have ih := ih h.left
    have hb := h b (by simp)
    rw [beval_snoc, List.length_append, List.length_singleton, be, show (beval l' * 256 + b) / 256 = beval l' by omega, show (beval l' * 256 + b) % 256 = b by omega, ih]
theorem beval_take_succ (l : List Int) (i : Nat) (h : i < l.length) : beval (l.take (i + 1)) = beval (l.take i) * 256 + rd l i := by
  rw [List.take_succ_eq_append_getElem h, beval_snoc]
  congr 1
  simp [rd, h]
theorem u8_inj {x y : Int} (hx : 0 ≤ x ∧ x < 256) (hy : 0 ≤ y ∧ y < 256) (h : UInt8.ofNat x.toNat = UInt8.ofNat y.toNat) : x = y := by
  have h2 := congrArg UInt8.toNat h
  simp only [UInt8.toNat_ofNat'] at h2
  omega
theorem strOfNums_inj : ∀ (l m : List Int), IsBytes l → IsBytes m → (l.map fun n => UInt8.ofNat n.toNat) = (m.map fun n => UInt8.ofNat n.toNat) → l = m
  | [], [], _, _, _ => rfl
  | [], _ :: _, _, _, h => by simp at h
  | _ :: _, [], _, _, h => by simp at h
  | x :: l, y :: m, hl, hm, h => by
    simp only [List.map_cons, List.cons.injEq] at h
    rw [u8_inj (hl x (by simp)) (hm y (by simp)) h.1, strOfNums_inj l m (fun z hz => hl z (by simp [hz])) (fun z hz => hm z (by simp [hz])) h.2]
theorem strOfNums_same (l m : List Int) (hl : IsBytes l) (hm : IsBytes m) : ((strOfNums l).toList == (strOfNums m).toList) = decide (l = m) := by
  rw [Lib.strOfNums_toList, Lib.strOfNums_toList]
  by_cases h : l = m
  · subst h; simp
  · rw [decide_eq_false h]
    refine beq_false_of_ne (fun h2 => h (strOfNums_inj l m hl hm h2))
theorem u64_wrap (x : Int) : IntKind.u64.wrap x = x % 18446744073709551616 := by simp [IntKind.wrap, IntKind.bits, IntKind.signed]
theorem i64_wrap (x : Int) : IntKind.i64.wrap x = wrap64 x := by
  unfold wrap64
  simp [IntKind.wrap, IntKind.bits, IntKind.signed]
  split <;> omega
theorem shr_u64_byte (n : Int) (i : Nat) (hi : i < 8) : shr .u64 (IntKind.u64.wrap n) (8 * i) % 256 = n / 256 ^ i % 256 := by
  rw [u64_wrap]
  unfold shr
  rcases (by omega : i = 0 ∨ i = 1 ∨ i = 2 ∨ i = 3 ∨ i = 4 ∨ i = 5 ∨ i = 6 ∨ i = 7) with rfl | rfl | rfl | rfl | rfl | rfl | rfl | rfl <;> simp [IntKind.bits] <;> omega
theorem shr_i64_byte (n : Int) (i : Nat) (hi : i < 8) : shr .i64 n (8 * i) % 256 = n / 256 ^ i % 256 := by
  unfold shr
  rcases (by omega : i = 0 ∨ i = 1 ∨ i = 2 ∨ i = 3 ∨ i = 4 ∨ i = 5 ∨ i = 6 ∨ i = 7) with rfl | rfl | rfl | rfl | rfl | rfl | rfl | rfl <;> simp [IntKind.bits]
theorem or_byte_nat (x b : Int) (hb : 0 ≤ b ∧ b < 256) : (BitVec.ofInt 64 (x * 256) ||| BitVec.ofInt 64 b) = BitVec.ofInt 64 (x * 256 + b) := by
  apply BitVec.eq_of_toNat_eq
  rw [BitVec.toNat_or, BitVec.toNat_ofInt, BitVec.toNat_ofInt, BitVec.toNat_ofInt]
  have e1 : (x * 256 % ((2 ^ 64 : Nat) : Int)).toNat = 2 ^ 8 * (x % 72057594037927936).toNat := by omega
  have e2 : (b % ((2 ^ 64 : Nat) : Int)).toNat = b.toNat := by omega
  rw [e1, e2, ← Nat.two_pow_add_eq_or_of_lt (show b.toNat < 2 ^ 8 by omega)]
  omega
theorem or_byte_u64 (x b : Int) (hb : 0 ≤ b ∧ b < 256) : Go.bits .or .u64 (IntKind.u64.wrap (x * 256)) (IntKind.u64.wrap b) = IntKind.u64.wrap (x * 256 + b) := by
  have e : ∀ y : Int, BitVec.ofInt 64 (IntKind.u64.wrap y) = BitVec.ofInt 64 y := by
    intro y
    apply BitVec.eq_of_toNat_eq
    rw [u64_wrap, BitVec.toNat_ofInt, BitVec.toNat_ofInt]
    omega
  show IntKind.u64.wrap ((BitVec.ofInt 64 (IntKind.u64.wrap (x * 256)) ||| BitVec.ofInt 64 (IntKind.u64.wrap b)).toNat : Int) = _
  rw [e, e, or_byte_nat x b hb, u64_wrap, u64_wrap, BitVec.toNat_ofInt]
  omega
theorem or_byte_i64 (x b : Int) (hb : 0 ≤ b ∧ b < 256) : Go.bits .or .i64 (wrap64 (x * 256)) (wrap64 b) = wrap64 (x * 256 + b) := by
  have e : ∀ y : Int, BitVec.ofInt 64 (wrap64 y) = BitVec.ofInt 64 y := by
    intro y
    apply BitVec.eq_of_toNat_eq
    unfold wrap64
    rw [BitVec.toNat_ofInt, BitVec.toNat_ofInt]
    omega
  show IntKind.i64.wrap ((BitVec.ofInt 64 (wrap64 (x * 256)) ||| BitVec.ofInt 64 (wrap64 b)).toNat : Int) = _
  rw [e, e, or_byte_nat x b hb, i64_wrap, BitVec.toNat_ofInt]
  unfold wrap64
  omega
/-! ### what num's functions come to -/
def sizedS (s : Int) : Bool := s == 1 || s == 2 || s == 4 || s == 8
theorem sizedS_iff (s : Int) : sizedS s = true ↔ s = 1 ∨ s = 2 ∨ s = 4 ∨ s = 8 := by
  unfold sizedS
  simp [or_assoc]
def rightS (n s : Int) : Bool := s == 8 || sizedS s && decide (0 ≤ n) && decide (n < 256 ^ s.toNat)
theorem rightS_sized {n s : Int} (h : rightS n s = true) : s = 1 ∨ s = 2 ∨ s = 4 ∨ s = 8 := by
  unfold rightS at h
  simp only [Bool.or_eq_true, Bool.and_eq_true, beq_iff_eq, decide_eq_true_eq] at h
  rcases h with h | h
  · exact .inr (.inr (.inr h))
  · exact (sizedS_iff s).1 h.1.1
theorem rightS_4 (n : Int) : rightS n 4 = (decide (0 ≤ n) && decide (n < 4294967296)) := by simp [rightS, sizedS]
theorem rightS_2 (n : Int) : rightS n 2 = (decide (0 ≤ n) && decide (n < 65536)) := by simp [rightS, sizedS]
theorem rightS_1 (n : Int) : rightS n 1 = (decide (0 ≤ n) && decide (n < 256)) := by simp [rightS, sizedS]
theorem rightS_8 (n : Int) : rightS n 8 = true := by simp [rightS]
theorem rightS_range {n s : Int} (h : rightS n s = true) (h8 : s ≠ 8) : 0 ≤ n ∧ n < 256 ^ s.toNat := by
  unfold rightS at h
  simp only [Bool.or_eq_true, Bool.and_eq_true, beq_iff_eq, decide_eq_true_eq] at h
  rcases h with h | h
  · exact absurd h h8
  · exact ⟨h.1.2, h.2⟩
def putS (l : List Int) (n s : Int) : List Int := if rightS n s = true then l ++ be n s.toNat else l
theorem putS_bytes {l : List Int} (h : IsBytes l) (n s : Int) : IsBytes (putS l n s) := by
  unfold putS
  split
  · exact h.append (be_bytes _ _)
  · exact h
theorem putS_length (l : List Int) (n s : Int) : l.length ≤ (putS l n s).length ∧ (putS l n s).length ≤ l.length + 8 := by
  unfold putS
  split
  · rename_i h
    rw [List.length_append, be_length]
    have := rightS_sized h
    omega
  · omega
theorem putS_8 (l : List Int) (n : Int) : putS l n 8 = l ++ be n 8 := by unfold putS; rw [if_pos (rightS_8 n)]; rfl
def getS (l : List Int) (at_ s : Int) : Int × Int :=
  if sizedS s = true ∧ 0 ≤ at_ then (if at_ + s ≤ l.length then (wrap64 (beval ((l.drop at_.toNat).take s.toNat)), 0) else (0, 3)) else (0, 1)
theorem num_sized_tells (s : Int) : num_sized.f s = some (sizedS s) := by
  unfold num_sized.f sizedS
  by_cases h1 : s = 1
  · rw [if_pos h1]; subst h1; rfl
  · rw [if_neg h1]
    by_cases h2 : s = 2
    · rw [if_pos h2]; subst h2; rfl
    · rw [if_neg h2]
      by_cases h4 : s = 4
      · rw [if_pos h4]; subst h4; rfl
      · rw [if_neg h4]
        by_cases h8 : s = 8
        · rw [if_pos h8]; subst h8; rfl
        · rw [if_neg h8, beq_false_of_ne h1, beq_false_of_ne h2, beq_false_of_ne h4, beq_false_of_ne h8]; rfl
theorem num_right_tells (n s : Int) : num_Right.f n s = some (rightS n s) := by
  unfold num_Right.f rightS
  by_cases h8 : s = 8
  · rw [if_pos h8]; subst h8; rfl
  · rw [if_neg h8, num_sized_tells]
    simp only [Option.bind_some]
    rw [beq_false_of_ne h8, Bool.false_or]
    by_cases hs : sizedS s = true
    · rw [if_pos hs, hs, Bool.true_and]
      by_cases hn : n ≥ 0
      · rw [if_pos hn, decide_eq_true (show 0 ≤ n from hn), Bool.true_and]
        have h3 : s = 1 ∨ s = 2 ∨ s = 4 := by rcases (sizedS_iff s).1 hs with h | h | h | h <;> simp_all
        have hw : wrap64 (8 * s) = 8 * s := by unfold wrap64; omega
        rw [hw, if_pos (by omega)]
        congr 1
        rw [Bool.eq_iff_iff, beq_iff_eq, decide_eq_true_eq]
        unfold shr
        rcases h3 with rfl | rfl | rfl <;> simp [IntKind.bits] <;> omega
      · rw [if_neg hn, decide_eq_false (show ¬ 0 ≤ n from hn)]; rfl
    · rw [if_neg hs, Bool.eq_false_iff.mpr hs]; rfl
theorem num_put_l0 : ∀ (i k : Nat) (n : Int) (l : List Int), i ≤ 8 → i < k → l.length + i < 140737488355328 → num_Put.l0 k n l (8 * i - 8) = some (l ++ be n i)
  | 0, k, n, l, _, hk, _ => by
    obtain ⟨k, rfl⟩ : ∃ m, k = m + 1 := ⟨k - 1, by omega⟩
    simp only [num_Put.l0]
    rw [if_neg (by omega)]
    simp [be]
  | i + 1, k, n, l, hi, hk, hl => by
    obtain ⟨k, rfl⟩ : ∃ m, k = m + 1 := ⟨k - 1, by omega⟩
    simp only [num_Put.l0]
    rw [if_pos (by omega), if_pos (by omega), if_pos (by omega)]
    have e1 : (8 * ((i + 1 : Nat) : Int) - 8) = 8 * (i : Int) := by omega
    rw [e1, shr_u64_byte n i (by omega), show wrap64 (8 * (i : Int) - 8) = 8 * (i : Int) - 8 by unfold wrap64; omega]
    rw [num_put_l0 i k n _ (by omega) (by omega) (by rw [List.length_append, List.length_singleton]; omega), be_front, List.append_assoc]
    rfl
theorem num_put_tells (k : Nat) (hk : 9 < k) (l : List Int) (n s : Int) (hl : l.length + 8 < 140737488355328) : num_Put.f k l n s = some (putS l n s) := by
  unfold num_Put.f putS
  rw [if_pos (by omega), if_pos (by omega), if_pos (by omega), num_right_tells]
  simp only [Option.bind_some, Int.toNat_natCast]
  have e : l.take (List.replicate l.length (0 : Int)).length ++ (List.replicate l.length (0 : Int)).drop l.length = l := by simp
  rw [e]
  by_cases h : rightS n s = true
  · rw [if_pos h, if_pos h]
    have hs := rightS_sized h
    have e2 : wrap64 (8 * wrap64 (s - 1)) = 8 * (s.toNat : Int) - 8 := by unfold wrap64; omega
    rw [e2]
    exact num_put_l0 s.toNat k n l (by omega) (by omega) (by omega)
  · rw [if_neg h, if_neg h]
theorem pow_le_64 (i : Nat) (h : i ≤ 8) : (256 : Int) ^ i ≤ 18446744073709551616 := by
  rcases (by omega : i = 0 ∨ i = 1 ∨ i = 2 ∨ i = 3 ∨ i = 4 ∨ i = 5 ∨ i = 6 ∨ i = 7 ∨ i = 8) with rfl | rfl | rfl | rfl | rfl | rfl | rfl | rfl | rfl <;> decide
theorem rd_byte {l : List Int} (h : IsBytes l) (i : Nat) (hi : i < l.length) : 0 ≤ rd l i ∧ rd l i < 256 := by
  have : rd l i = l[i] := by simp [rd, hi]
  rw [this]
  exact h _ (List.getElem_mem hi)
theorem num_get_l0 (ys : List Int) (hy : IsBytes ys) (h8 : ys.length ≤ 8) : ∀ (d k i : Nat), i + d = ys.length → d < k → num_Get.l0 k (beval (ys.take i)) ys ys.length i = some (wrap64 (beval ys), 0)
  | 0, k, i, hd, hk => by
    obtain ⟨k, rfl⟩ : ∃ m, k = m + 1 := ⟨k - 1, by omega⟩
    simp only [num_Get.l0]
    rw [if_neg (by omega), List.take_of_length_le (by omega)]
  | d + 1, k, i, hd, hk => by
    obtain ⟨k, rfl⟩ : ∃ m, k = m + 1 := ⟨k - 1, by omega⟩
    simp only [num_Get.l0]
    rw [if_pos (by omega), if_pos (by omega), if_pos (by omega)]
    have hb := rd_byte hy i (by omega)
    have hv := beval_bound (ys.take (i + 1)) (hy.take _)
    rw [List.length_take, Nat.min_eq_left (by omega)] at hv
    have hp := pow_le_64 (i + 1) (by omega)
    rw [or_byte_u64 _ _ hb, ← beval_take_succ ys i (by omega), u64_wrap, Int.emod_eq_of_lt hv.1 (by omega)]
    rw [show wrap64 ((i : Int) + 1) = ((i + 1 : Nat) : Int) by unfold wrap64; omega]
    exact num_get_l0 ys hy h8 d k (i + 1) (by omega) (by omega)
theorem num_get_tells (k : Nat) (hk : 12 < k) (l : List Int) (hl : IsBytes l) (hn : l.length ≤ 140737488355328) (a s : Int) (ha : (Lit.int .i64 a).wf = true) : num_Get.f k l a s = some (getS l a s) := by
  obtain ⟨k, rfl⟩ : ∃ m, k = m + 2 := ⟨k - 2, by omega⟩
  have ba := bounds_i64 ha
  unfold num_Get.f getS
  rw [num_sized_tells]
  simp only [Option.bind_some]
  by_cases hs : sizedS s = true
  · rw [if_pos hs]
    have h4 := (sizedS_iff s).1 hs
    by_cases h0 : a < 0
    · rw [decide_eq_true h0, if_neg (by omega)]
      simp [num_Get.j0]
    · rw [decide_eq_false h0, if_pos ⟨hs, by omega⟩]
      simp only [num_Get.j0]
      rw [if_neg (by decide)]
      by_cases hle : a + s ≤ l.length
      · rw [if_neg (by omega), if_pos hle, decide_eq_false (by unfold wrap64; omega)]
        simp only [num_Get.j1]
        have hw : wrap64 (a + s) = a + s := by unfold wrap64; omega
        rw [if_neg (by decide), hw, if_pos (by omega), if_pos (by omega), if_pos (by omega)]
        simp only [Option.bind_some]
        have e : (l.take (a + s).toNat).drop a.toNat = (l.drop a.toNat).take s.toNat := by
          rw [List.drop_take]; congr 1; omega
        rw [e]
        have hlen : ((l.drop a.toNat).take s.toNat).length ≤ 8 := by rw [List.length_take]; omega
        exact num_get_l0 _ ((hl.drop _).take _) hlen _ k 0 (Nat.zero_add _) (by omega)
      · rw [if_neg hle]
        by_cases hlt : (l.length : Int) < s
        · rw [if_pos hlt]
          simp [num_Get.j1]
        · rw [if_neg hlt, decide_eq_true (by unfold wrap64; omega)]
          simp [num_Get.j1]
  · rw [if_neg hs, if_neg (fun h => hs h.1)]
    simp [num_Get.j0]
theorem rd_getElem (l : List Int) (i : Nat) (h : i < l.length) : rd l i = l[i] := by simp [rd, h]
theorem slices_equal_l0 (x y : List Int) (hl : x.length = y.length) (hx : x.length ≤ 140737488355328) : ∀ (d k i : Nat), i + d = x.length → d < k → slices_Equal_int_int.l0 k x y x.length i = some (decide (x.drop i = y.drop i))
  | 0, k, i, hd, hk => by
    obtain ⟨k, rfl⟩ : ∃ m, k = m + 1 := ⟨k - 1, by omega⟩
    simp only [slices_Equal_int_int.l0]
    rw [if_neg (by omega), List.drop_eq_nil_of_le (by omega), List.drop_eq_nil_of_le (by omega)]
    rfl
  | d + 1, k, i, hd, hk => by
    obtain ⟨k, rfl⟩ : ∃ m, k = m + 1 := ⟨k - 1, by omega⟩
    simp only [slices_Equal_int_int.l0]
    rw [if_pos (by omega), if_pos (by omega), if_pos (by omega), if_pos (by omega), rd_getElem x i (by omega), rd_getElem y i (by omega)]
    rw [show wrap64 ((i : Int) + 1) = ((i + 1 : Nat) : Int) by unfold wrap64; omega, slices_equal_l0 x y hl hx d k (i + 1) (by omega) (by omega)]
    rw [List.drop_eq_getElem_cons (show i < x.length by omega), List.drop_eq_getElem_cons (show i < y.length by omega)]
    by_cases h : x[i] = y[i]
    · rw [if_pos h, h]
      congr 1
      rw [decide_eq_decide]
      exact ⟨fun e => by rw [e], fun e => (List.cons.inj e).2⟩
    · rw [if_neg h]
      congr 1
      exact (decide_eq_false (fun e => h (List.cons.inj e).1)).symm
theorem slices_equal_tells (k : Nat) (x y : List Int) (hx : x.length ≤ 140737488355328) (hk : x.length < k) : slices_Equal_int_int.f k x y = some (decide (x = y)) := by
  unfold slices_Equal_int_int.f
  by_cases hl : x.length = y.length
  · rw [if_pos (by omega)]
    exact slices_equal_l0 x y hl hx x.length k 0 (by omega) hk
  · rw [if_neg (by omega), decide_eq_false (fun h => hl (by rw [h]))]
/-! ### keys -/
def clampS (n : Int) : Int := mn (mx n 0) 4294967295
theorem clampS_range (n : Int) : 0 ≤ clampS n ∧ clampS n < 4294967296 := by unfold clampS mn mx; split <;> split <;> omega
theorem clampS_id {n : Int} (h : 0 ≤ n ∧ n < 4294967296) : clampS n = n := by unfold clampS mn mx; split <;> split <;> omega
theorem putS_4 (l : List Int) (n : Int) (h : 0 ≤ n ∧ n < 4294967296) : putS l n 4 = l ++ be n 4 := by
  unfold putS; rw [rightS_4, if_pos (by simp; omega)]; rfl
def wordsS (l : List Int) : List Int := l.flatMap fun n => be (clampS n) 4
theorem wordsS_cons (n : Int) (l : List Int) : wordsS (n :: l) = be (clampS n) 4 ++ wordsS l := rfl
theorem wordsS_length : ∀ l : List Int, (wordsS l).length = 4 * l.length
  | [] => rfl
  | n :: l => by rw [wordsS_cons, List.length_append, be_length, wordsS_length l, List.length_cons]; omega
theorem wordsS_bytes : ∀ l : List Int, IsBytes (wordsS l)
  | [] => IsBytes.nil
  | n :: l => by rw [wordsS_cons]; exact (be_bytes _ _).append (wordsS_bytes l)
def keyS (tag : Int) (l : List Int) : List Int := tag :: wordsS (l.take 7)
theorem keyS_bytes {tag : Int} (ht : 0 ≤ tag ∧ tag < 256) (l : List Int) : IsBytes (keyS tag l) := (IsBytes.one ht).append (wordsS_bytes _)
theorem keyS_length (tag : Int) (l : List Int) : (keyS tag l).length = 1 + 4 * min 7 l.length := by unfold keyS; rw [List.length_cons, wordsS_length, List.length_take]; omega
theorem rd_at (l : List Int) (i : Nat) (h : i < l.length) : rd l (i : Int) = l[i] := by unfold rd; rw [Int.toNat_natCast, List.getD_eq_getElem?_getD, List.getElem?_eq_getElem h]; rfl
def numsS : Nat → List Int → List Int
  | 0, _ => []
  | m + 1, l => beval (l.take 4) :: numsS m (l.drop 4)
theorem numsS_length : ∀ (m : Nat) (l : List Int), (numsS m l).length = m
  | 0, _ => rfl
  | m + 1, l => by rw [numsS, List.length_cons, numsS_length m]
theorem numsS_words : ∀ (l : List Int), numsS l.length (wordsS l) = l.map clampS
  | [] => rfl
  | n :: l => by
    have h := clampS_range n
    rw [wordsS_cons, List.length_cons, numsS, List.take_append_of_le_length (by rw [be_length]; omega), List.take_of_length_le (by rw [be_length]; omega), List.drop_append_of_le_length (by rw [be_length]; omega), List.drop_of_length_le (by rw [be_length]; omega), List.nil_append, numsS_words l, beval_be, List.map_cons]
    congr 1
    omega
def splitS (l : List Int) : Int × List Int × Bool := if 1 ≤ l.length ∧ l.length ≤ 29 ∧ l.length % 4 = 1 then (rd l 0, numsS ((l.length - 1) / 4) (l.drop 1), true) else (0, [], false)
theorem splitS_numbers (l : List Int) : (splitS l).2.1.length ≤ 7 := by
  unfold splitS
  split
  · show (numsS _ _).length ≤ 7; rw [numsS_length]; omega
  · exact Nat.zero_le _
theorem splitS_keyS (tag : Int) (l : List Int) (h : l.length ≤ 7) : splitS (keyS tag l) = (tag, l.map clampS, true) := by
  have hl := keyS_length tag l
  unfold splitS
  rw [if_pos (by omega), hl]
  have e : keyS tag l = tag :: wordsS l := by unfold keyS; rw [List.take_of_length_le h]
  rw [e, List.drop_succ_cons, List.drop_zero, show (1 + 4 * min 7 l.length - 1) / 4 = l.length by omega, numsS_words]
  rfl
theorem get4 (l : List Int) (hl : IsBytes l) (i : Nat) (h : i + 4 ≤ l.length) : getS l (i : Int) 4 = (beval ((l.drop i).take 4), 0) := by
  have hb := beval_bound _ ((hl.drop i).take 4)
  rw [List.length_take, List.length_drop, show min 4 (l.length - i) = 4 by omega] at hb
  unfold getS
  rw [if_pos ⟨by decide, by omega⟩, if_pos (by omega), Int.toNat_natCast, show (4 : Int).toNat = 4 from rfl, show wrap64 (beval ((l.drop i).take 4)) = beval ((l.drop i).take 4) by unfold wrap64; omega]
theorem keys_key_l0 (ys : List Int) (hy : ys.length ≤ 7) : ∀ (d k i : Nat) (b : List Int), i + d = ys.length → d + 12 < k → b.length + 4 * d ≤ 1000 → keys_Key.l0 k b ys (ys.length : Int) (i : Int) = some (b ++ wordsS (ys.drop i))
  | d, 0, _, _, _, h, _ => by omega
  | 0, k + 1, i, b, hi, _, _ => by
    rw [keys_Key.l0, if_neg (by omega), List.drop_of_length_le (by omega)]
    simp [wordsS]
  | d + 1, k + 1, i, b, hi, hk, hb => by
    have hr := clampS_range (rd ys i)
    rw [keys_Key.l0, if_pos (by omega), if_pos (by omega), if_pos (by omega), num_put_tells k (by omega) _ _ _ (by omega), Option.bind_some, show mn (mx (rd ys i) 0) 4294967295 = clampS (rd ys i) from rfl, putS_4 _ _ hr, show wrap64 ((i : Int) + 1) = ((i + 1 : Nat) : Int) by unfold wrap64; omega,
      keys_key_l0 ys hy d k (i + 1) _ (by omega) (by omega) (by rw [List.length_append, be_length]; omega), List.drop_eq_getElem_cons (show i < ys.length by omega), wordsS_cons, rd_at ys i (by omega), List.append_assoc]
theorem keys_key_tells (k : Nat) (hk : 30 < k) (tag : Int) (l : List Int) : keys_Key.f k tag l = some (keyS tag l) := by
  have hm : mn (l.length : Int) 7 = ((min 7 l.length : Nat) : Int) := by unfold mn; split <;> omega
  unfold keys_Key.f
  rw [hm, if_pos (by omega), if_pos (by omega), Option.bind_some, Int.toNat_natCast, show l.take (min 7 l.length) = l.take 7 by rw [← List.take_take, List.take_of_length_le (Nat.le_refl _)]]
  have := keys_key_l0 (l.take 7) (List.length_take_le _ _) (l.take 7).length k 0 [tag] (by omega) (by have := List.length_take_le 7 l; omega) (by have := List.length_take_le 7 l; simp only [List.length_singleton]; omega)
  rw [show ((0 : Nat) : Int) = 0 from rfl, List.drop_zero] at this
  rw [this]; rfl
theorem keys_split_l0 (x rest : List Int) (hx : 0 < x.length) (hr : IsBytes rest) (m : Nat) (hm : rest.length = 4 * m) (h7 : m ≤ 7) : ∀ (d k i : Nat) (acc : List Int), i + d = m → d + 14 < k → acc.length + d ≤ 1000 → keys_Split.l0 k x rest acc ((4 * i : Nat) : Int) = some (rd x 0, acc ++ numsS d (rest.drop (4 * i)), true)
  | d, 0, _, _, _, h, _ => by omega
  | 0, k + 1, i, acc, hi, _, _ => by
    rw [keys_Split.l0, if_neg (by omega), if_pos (by omega), numsS, List.append_nil]
  | d + 1, k + 1, i, acc, hi, hk, ha => by
    rw [keys_Split.l0, if_pos (by omega), num_get_tells k (by omega) _ hr (by omega) _ _ (WalkArith.wf_i64 (by omega)), Option.bind_some, get4 _ hr _ (by omega), if_pos (by omega), show wrap64 (((4 * i : Nat) : Int) + 4) = ((4 * (i + 1) : Nat) : Int) by unfold wrap64; omega,
      keys_split_l0 x rest hx hr m hm h7 d k (i + 1) _ (by omega) (by omega) (by rw [List.length_append]; simp only [List.length_singleton]; omega), numsS, List.drop_drop, List.append_assoc, show 4 * i + 4 = 4 * (i + 1) by omega]
    rfl
theorem keys_split_tells (k : Nat) (hk : 30 < k) (l : List Int) (hl : IsBytes l) (hn : l.length ≤ 4000) : keys_Split.f k l = some (splitS l) := by
  obtain ⟨k, rfl⟩ : ∃ j, k = j + 1 := ⟨k - 1, by omega⟩
  unfold keys_Split.f splitS
  by_cases h0 : (l.length : Int) = 0
  · rw [if_pos h0, if_neg (by omega)]
  · rw [if_neg h0, if_pos (by omega), Option.bind_some]
    have hd : (l.drop 1).length = l.length - 1 := List.length_drop
    by_cases h4 : ((l.drop 1).length : Int) % 4 = 0
    · rw [if_pos h4, keys_Split.j0]
      by_cases h28 : ((l.drop 1).length : Int) > 28
      · rw [if_pos (by simpa using h28), if_neg (by omega)]
      · rw [if_neg (by simpa using h28), if_pos (by omega)]
        have := keys_split_l0 l (l.drop 1) (by omega) (hl.drop 1) ((l.length - 1) / 4) (by omega) (by omega) ((l.length - 1) / 4) k 0 [] (by omega) (by omega) (by simp only [List.length_nil]; omega)
        rw [show ((4 * 0 : Nat) : Int) = 0 from rfl, Nat.mul_zero, List.drop_zero, List.nil_append] at this
        exact this
    · rw [if_neg h4, keys_Split.j0, if_pos rfl, if_neg (by omega)]
/-! ### the order of lists -/
def cmpI : List Int → List Int → Int
  | [], [] => 0
  | [], _ :: _ => -1
  | _ :: _, [] => 1
  | a :: xs, b :: ys => if a < b then -1 else if b < a then 1 else cmpI xs ys
theorem u8_lt {a b : Int} (ha : 0 ≤ a ∧ a < 256) (hb : 0 ≤ b ∧ b < 256) : (a.toNat.toUInt8 < b.toNat.toUInt8) ↔ a < b := by
  rw [UInt8.lt_iff_toNat_lt]
  show (UInt8.ofNat a.toNat).toNat < (UInt8.ofNat b.toNat).toNat ↔ _
  rw [UInt8.toNat_ofNat', UInt8.toNat_ofNat']
  omega
theorem compareBytes_ints : ∀ (l m : List Int), IsBytes l → IsBytes m → Lib.compareBytes (Lib.bytesOf l) (Lib.bytesOf m) = cmpI l m
  | [], [], _, _ => rfl
  | [], _ :: _, _, _ => rfl
  | _ :: _, [], _, _ => rfl
  | a :: xs, b :: ys, hl, hm => by
    have ha := hl a (by simp)
    have hb := hm b (by simp)
    have ih := compareBytes_ints xs ys (fun x hx => hl x (by simp [hx])) (fun x hx => hm x (by simp [hx]))
    show (if a.toNat.toUInt8 < b.toNat.toUInt8 then (-1 : Int) else if b.toNat.toUInt8 < a.toNat.toUInt8 then 1 else Lib.compareBytes (Lib.bytesOf xs) (Lib.bytesOf ys)) = _
    rw [ih, cmpI]
    simp only [u8_lt ha hb, u8_lt hb ha]
theorem cmpI_be4 (n m : Int) (hn : 0 ≤ n ∧ n < 4294967296) (hm : 0 ≤ m ∧ m < 4294967296) (xs ys : List Int) : cmpI (be n 4 ++ xs) (be m 4 ++ ys) = if n < m then -1 else if m < n then 1 else cmpI xs ys := by
  rw [be_front 3 n, be_front 2 n, be_front 1 n, be_front 0 n, be_front 3 m, be_front 2 m, be_front 1 m, be_front 0 m]
  simp only [be, List.cons_append, List.nil_append, cmpI]
  rw [show (256 : Int) ^ 3 = 16777216 by decide, show (256 : Int) ^ 2 = 65536 by decide, show (256 : Int) ^ 1 = 256 by decide, show (256 : Int) ^ 0 = 1 by decide]
  have dn : n = 16777216 * (n / 16777216 % 256) + 65536 * (n / 65536 % 256) + 256 * (n / 256 % 256) + n / 1 % 256 := by omega
  have dm : m = 16777216 * (m / 16777216 % 256) + 65536 * (m / 65536 % 256) + 256 * (m / 256 % 256) + m / 1 % 256 := by omega
  have r3 : 0 ≤ n / 16777216 % 256 ∧ n / 16777216 % 256 < 256 := by omega
  have r2 : 0 ≤ n / 65536 % 256 ∧ n / 65536 % 256 < 256 := by omega
  have r1 : 0 ≤ n / 256 % 256 ∧ n / 256 % 256 < 256 := by omega
  have r0 : 0 ≤ n / 1 % 256 ∧ n / 1 % 256 < 256 := by omega
  have s3 : 0 ≤ m / 16777216 % 256 ∧ m / 16777216 % 256 < 256 := by omega
  have s2 : 0 ≤ m / 65536 % 256 ∧ m / 65536 % 256 < 256 := by omega
  have s1 : 0 ≤ m / 256 % 256 ∧ m / 256 % 256 < 256 := by omega
  have s0 : 0 ≤ m / 1 % 256 ∧ m / 1 % 256 < 256 := by omega
  generalize n / 16777216 % 256 = n3 at dn r3 ⊢
  generalize n / 65536 % 256 = n2 at dn r2 ⊢
  generalize n / 256 % 256 = n1 at dn r1 ⊢
  generalize n / 1 % 256 = n0 at dn r0 ⊢
  generalize m / 16777216 % 256 = m3 at dm s3 ⊢
  generalize m / 65536 % 256 = m2 at dm s2 ⊢
  generalize m / 256 % 256 = m1 at dm s1 ⊢
  generalize m / 1 % 256 = m0 at dm s0 ⊢
  by_cases a3 : n3 < m3
  · rw [if_pos a3, if_pos (by omega)]
  by_cases b3 : m3 < n3
  · rw [if_neg a3, if_pos b3, if_neg (by omega), if_pos (by omega)]
  rw [if_neg a3, if_neg b3]
  by_cases a2 : n2 < m2
  · rw [if_pos a2, if_pos (by omega)]
  by_cases b2 : m2 < n2
  · rw [if_neg a2, if_pos b2, if_neg (by omega), if_pos (by omega)]
  rw [if_neg a2, if_neg b2]
  by_cases a1 : n1 < m1
  · rw [if_pos a1, if_pos (by omega)]
  by_cases b1 : m1 < n1
  · rw [if_neg a1, if_pos b1, if_neg (by omega), if_pos (by omega)]
  rw [if_neg a1, if_neg b1]
  by_cases a0 : n0 < m0
  · rw [if_pos a0, if_pos (by omega)]
  by_cases b0 : m0 < n0
  · rw [if_neg a0, if_pos b0, if_neg (by omega), if_pos (by omega)]
  rw [if_neg a0, if_neg b0, if_neg (by omega), if_neg (by omega)]
theorem cmpI_words : ∀ (l m : List Int), l.length = m.length → (∀ x ∈ l, 0 ≤ x ∧ x < 4294967296) → (∀ x ∈ m, 0 ≤ x ∧ x < 4294967296) → cmpI (wordsS l) (wordsS m) = cmpI l m
  | [], [], _, _, _ => rfl
  | [], _ :: _, h, _, _ => by simp at h
  | _ :: _, [], h, _, _ => by simp at h
  | a :: xs, b :: ys, h, hl, hm => by
    have ha := hl a (by simp)
    have hb := hm b (by simp)
    rw [wordsS_cons, wordsS_cons, clampS_id ha, clampS_id hb, cmpI_be4 a b ha hb, cmpI, cmpI_words xs ys (by simpa using h) (fun x hx => hl x (by simp [hx])) (fun x hx => hm x (by simp [hx]))]
theorem cmp_int_tells (a b : Int) : cmp_Compare_int.f a b = some (if a < b then -1 else if b < a then 1 else 0) := by
  unfold cmp_Compare_int.f cmp_isNaN_int.f
  rw [bne_self_eq_false, Option.bind_some, bne_self_eq_false, Option.bind_some, if_neg Bool.false_ne_true, if_neg Bool.false_ne_true]
  by_cases h : a < b
  · rw [if_pos h, if_pos h]
  · rw [if_neg h, if_neg h]
    by_cases h2 : b < a
    · rw [if_pos h2, if_pos h2]
    · rw [if_neg h2, if_neg h2]
theorem slices_compare_l0 (x y : List Int) (hl : x.length = y.length) (hn : x.length ≤ 4000) : ∀ (d k i : Nat), i + d = x.length → d < k → slices_Compare_int_int.l0 k x y x (x.length : Int) (i : Int) = some (cmpI (x.drop i) (y.drop i))
  | d, 0, _, _, h => by omega
  | 0, k + 1, i, hi, _ => by
    rw [slices_Compare_int_int.l0, if_neg (by omega), if_neg (by omega), List.drop_of_length_le (by omega), List.drop_of_length_le (by omega)]; rfl
  | d + 1, k + 1, i, hi, hk => by
    rw [slices_Compare_int_int.l0, if_pos (by omega), if_pos (by omega), if_pos (by omega), if_neg (by omega), if_pos (by omega), cmp_int_tells, Option.bind_some, rd_at x i (by omega), rd_at y i (by omega), List.drop_eq_getElem_cons (show i < x.length by omega), List.drop_eq_getElem_cons (show i < y.length by omega), cmpI]
    by_cases h : x[i] < y[i]
    · rw [if_pos h, if_pos h, if_neg (by decide)]
    · rw [if_neg h, if_neg h]
      by_cases h2 : y[i] < x[i]
      · rw [if_pos h2, if_pos h2, if_neg (by decide)]
      · rw [if_neg h2, if_neg h2, if_pos rfl, show wrap64 ((i : Int) + 1) = ((i + 1 : Nat) : Int) by unfold wrap64; omega, slices_compare_l0 x y hl hn d k (i + 1) (by omega) (by omega)]
theorem slices_compare_tells (k : Nat) (x y : List Int) (hl : x.length = y.length) (hn : x.length ≤ 4000) (hk : x.length < k) : slices_Compare_int_int.f k x y = some (cmpI x y) := by
  have := slices_compare_l0 x y hl hn x.length k 0 (by omega) hk
  rw [show ((0 : Nat) : Int) = 0 from rfl, List.drop_zero, List.drop_zero] at this
  exact this
theorem KeysOrder : exchequerlaw18_KeysOrder.Pure := by
  intro tag x y ht gx gy
  obtain ⟨x0, x1, x2⟩ := gx
  obtain ⟨y0, y1, y2⟩ := gy
  have ht' := bounds_u8 ht
  have b0 := bounds_u32 x0
  have b1 := bounds_u32 x1
  have b2 := bounds_u32 x2
  have c0 := bounds_u32 y0
  have c1 := bounds_u32 y1
  have c2 := bounds_u32 y2
  refine ⟨40, ?_⟩
  have ha : exchequerlaw18_awake.f 40 = some true := by decide +kernel
  unfold exchequerlaw18_KeysOrder.f
  rw [show wrap64 x.f0 = x.f0 by unfold wrap64; omega, show wrap64 x.f1 = x.f1 by unfold wrap64; omega, show wrap64 x.f2 = x.f2 by unfold wrap64; omega, show wrap64 y.f0 = y.f0 by unfold wrap64; omega, show wrap64 y.f1 = y.f1 by unfold wrap64; omega, show wrap64 y.f2 = y.f2 by unfold wrap64; omega]
  have hx : ∀ n ∈ [x.f0, x.f1, x.f2], 0 ≤ n ∧ n < 4294967296 := by simp; omega
  have hy : ∀ n ∈ [y.f0, y.f1, y.f2], 0 ≤ n ∧ n < 4294967296 := by simp; omega
  have lx : [x.f0, x.f1, x.f2].length = 3 := rfl
  have ly : [y.f0, y.f1, y.f2].length = 3 := rfl
  generalize [x.f0, x.f1, x.f2] = l at hx lx ⊢
  generalize [y.f0, y.f1, y.f2] = m at hy ly ⊢
  have kl := keyS_length tag l
  have bl := keyS_bytes (tag := tag) (by omega) l
  have bm := keyS_bytes (tag := tag) (by omega) m
  have hs : splitS (keyS tag l) = (tag, l, true) := by
    rw [splitS_keyS tag l (by omega), show l.map clampS = l from (List.map_congr_left (g := id) (fun x hx_ => clampS_id (hx x hx_))).trans (List.map_id l)]
  rw [Option.bind_some, Option.bind_some, keys_key_tells 40 (by decide), Option.bind_some, keys_split_tells 40 (by decide) _ bl (by omega), Option.bind_some, hs, if_pos rfl, if_pos rfl, slices_equal_tells 40 _ _ (show l.length ≤ _ by omega) (show l.length < _ by omega), Option.bind_some, if_pos (by simp), keys_key_tells 40 (by decide), Option.bind_some]
  unfold bytes_Compare.f
  rw [Option.bind_some, slices_compare_tells 40 _ _ (by omega) (by omega) (by omega), Option.bind_some, compareBytes_ints _ _ bl bm]
  have hc : cmpI (keyS tag l) (keyS tag m) = cmpI l m := by
    unfold keyS
    rw [List.take_of_length_le (by omega), List.take_of_length_le (by omega), cmpI, if_neg (Int.lt_irrefl _), if_neg (Int.lt_irrefl _), cmpI_words l m (by omega) hx hy]
  rw [hc, Option.bind_some, if_pos rfl, ha]
  rfl

end Go.Proofs.Ytkahpaipciooiab.Pure

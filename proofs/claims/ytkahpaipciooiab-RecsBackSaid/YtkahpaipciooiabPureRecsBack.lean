/- What was made a pair is told of it again: its key's numbers stand in four bytes each, its value's in eight. -/
import Derived.Test.YtkahpaipciooiabPRecsBacky
import Derived.OpenShut
import Derived.Lib.Bytes
import Derived.Laws.BitsLemmas
namespace Go.Proofs.Ytkahpaipciooiab.Pure
open Go.RowKit Go.Proofs.Ytkahpaipciooiab.PRecsBack Go.Proofs.YtkahpaipciooiabW.PrintWords Go.Proofs.YtkahpaipciooiabW.PrintLast Go.Proofs.YtkahpaipciooiabW.PrintMore Go
/-! ### bytes, big-endian numbers -/
def IsBytes (l : List Int) : Prop := ∀ x ∈ l, 0 ≤ x ∧ x < 256
theorem IsBytes.nil : IsBytes [] := fun x h => by cases h
theorem IsBytes.append {l m : List Int} (h : IsBytes l) (g : IsBytes m) : IsBytes (l ++ m) := fun x hx => (List.mem_append.1 hx).elim (h x) (g x)
theorem IsBytes.left {l m : List Int} (h : IsBytes (l ++ m)) : IsBytes l := fun x hx => h x (List.mem_append.2 (.inl hx))
theorem IsBytes.one {b : Int} (h : 0 ≤ b ∧ b < 256) : IsBytes [b] := fun x hx => by rw [List.mem_singleton.1 hx]; exact h
theorem IsBytes.take {l : List Int} (h : IsBytes l) (n : Nat) : IsBytes (l.take n) := fun x hx => h x (List.mem_of_mem_take hx)
theorem IsBytes.drop {l : List Int} (h : IsBytes l) (n : Nat) : IsBytes (l.drop n) := fun x hx => h x (List.mem_of_mem_drop hx)
theorem IsBytes.of_wf {l : List Int} (h : ∀ x ∈ l, (Lit.int .u8 x).wf = true) : IsBytes l := fun x hx => by have := bounds_u8 (h x hx); omega
theorem IsBytes.replicate (n : Nat) : IsBytes (List.replicate n 0) := fun x hx => by rw [List.eq_of_mem_replicate hx]; decide
def be (n : Int) : Nat → List Int
  | 0 => []
  | s + 1 => be (n / 256) s ++ [n % 256]
theorem be_length : ∀ (s : Nat) (n : Int), (be n s).length = s
  | 0, _ => rfl
  | s + 1, n => by rw [be, List.length_append, be_length s]; rfl
theorem be_bytes : ∀ (s : Nat) (n : Int), IsBytes (be n s)
  | 0, _ => IsBytes.nil
  | s + 1, n => by rw [be]; exact (be_bytes s _).append (IsBytes.one (by omega))
theorem be_front : ∀ (s : Nat) (n : Int), be n (s + 1) = (n / 256 ^ s % 256) :: be n s
  | 0, n => by simp [be]
  | s + 1, n => by
    rw [be, be_front s (n / 256), be]
    rw [Int.ediv_ediv_of_nonneg (show (0 : Int) ≤ 256 by decide), show (256 : Int) * 256 ^ s = 256 ^ (s + 1) by rw [Int.pow_succ, Int.mul_comm]]
    rfl
def beval (l : List Int) : Int := l.foldl (fun a b => a * 256 + b) 0
theorem beval_nil : beval [] = 0 := rfl
theorem beval_snoc (l : List Int) (b : Int) : beval (l ++ [b]) = beval l * 256 + b := by simp [beval]
theorem beval_be : ∀ (s : Nat) (n : Int), beval (be n s) = n % 256 ^ s
  | 0, n => by simp [be, beval, Int.emod_one]
  | s + 1, n => by
    rw [be, beval_snoc, beval_be s]
    have h1 : (0 : Int) < 256 ^ s := Int.pow_pos (by decide)
    have h2 : n % (256 ^ (s + 1)) = n % 256 + 256 * (n / 256 % 256 ^ s) := by
      rw [show (256 : Int) ^ (s + 1) = 256 * 256 ^ s by rw [Int.pow_succ, Int.mul_comm], Int.emod_def n (256 * 256 ^ s), Int.emod_def (n / 256), ← Int.ediv_ediv_of_nonneg (show (0 : Int) ≤ 256 by decide), Int.mul_assoc]
      omega
    rw [h2]
    omega
theorem snoc_ind {P : List Int → Prop} (h0 : P []) (h1 : ∀ l b, P l → P (l ++ [b])) (l : List Int) : P l := by
  have h : ∀ m : List Int, P m.reverse := by
    intro m
    induction m with
    | nil => exact h0
    | cons b m ih => rw [List.reverse_cons]; exact h1 _ _ ih
  have := h l.reverse
  rwa [List.reverse_reverse] at this
theorem beval_bound (l : List Int) (h : IsBytes l) : 0 ≤ beval l ∧ beval l < 256 ^ l.length := by
  revert h
  refine snoc_ind (P := fun l => IsBytes l → 0 ≤ beval l ∧ beval l < 256 ^ l.length) ?_ ?_ l
  · intro _; simp [beval]
  · intro l' b ih h
    have ih := ih h.left
    have hb := h b (by simp)
    rw [beval_snoc, List.length_append, List.length_singleton, Int.pow_succ]
    generalize (256 : Int) ^ l'.length = p at ih
    omega
theorem be_beval (l : List Int) (h : IsBytes l) : be (beval l) l.length = l := by
  revert h
  refine snoc_ind (P := fun l => IsBytes l → be (beval l) l.length = l) ?_ ?_ l
  · intro _; rfl
  · intro l' b ih h
    have ih := ih h.left
    have hb := h b (by simp)
    rw [beval_snoc, List.length_append, List.length_singleton, be, show (beval l' * 256 + b) / 256 = beval l' by omega, show (beval l' * 256 + b) % 256 = b by omega, ih]
theorem beval_take_succ (l : List Int) (i : Nat) (h : i < l.length) : beval (l.take (i + 1)) = beval (l.take i) * 256 + rd l i := by
  rw [List.take_succ_eq_append_getElem h, beval_snoc]
  congr 1
  simp [rd, h]
theorem u8_inj {x y : Int} (hx : 0 ≤ x ∧ x < 256) (hy : 0 ≤ y ∧ y < 256) (h : UInt8.ofNat x.toNat = UInt8.ofNat y.toNat) : x = y := by
  have h2 := congrArg UInt8.toNat h
  simp only [UInt8.toNat_ofNat'] at h2
  omega
theorem strOfNums_inj : ∀ (l m : List Int), IsBytes l → IsBytes m → (l.map fun n => UInt8.ofNat n.toNat) = (m.map fun n => UInt8.ofNat n.toNat) → l = m
  | [], [], _, _, _ => rfl
  | [], _ :: _, _, _, h => by simp at h
  | _ :: _, [], _, _, h => by simp at h
  | x :: l, y :: m, hl, hm, h => by
    simp only [List.map_cons, List.cons.injEq] at h
    rw [u8_inj (hl x (by simp)) (hm y (by simp)) h.1, strOfNums_inj l m (fun z hz => hl z (by simp [hz])) (fun z hz => hm z (by simp [hz])) h.2]
theorem strOfNums_same (l m : List Int) (hl : IsBytes l) (hm : IsBytes m) : ((strOfNums l).toList == (strOfNums m).toList) = decide (l = m) := by
  rw [Lib.strOfNums_toList, Lib.strOfNums_toList]
  by_cases h : l = m
  · subst h; simp
  · rw [decide_eq_false h]
    refine beq_false_of_ne (fun h2 => h (strOfNums_inj l m hl hm h2))
theorem u64_wrap (x : Int) : IntKind.u64.wrap x = x % 18446744073709551616 := by simp [IntKind.wrap, IntKind.bits, IntKind.signed]
theorem i64_wrap (x : Int) : IntKind.i64.wrap x = wrap64 x := by
  unfold wrap64
  simp [IntKind.wrap, IntKind.bits, IntKind.signed]
  split <;> omega
theorem shr_u64_byte (n : Int) (i : Nat) (hi : i < 8) : shr .u64 (IntKind.u64.wrap n) (8 * i) % 256 = n / 256 ^ i % 256 := by
  rw [u64_wrap]
  unfold shr
  rcases (by omega : i = 0 ∨ i = 1 ∨ i = 2 ∨ i = 3 ∨ i = 4 ∨ i = 5 ∨ i = 6 ∨ i = 7) with rfl | rfl | rfl | rfl | rfl | rfl | rfl | rfl <;> simp [IntKind.bits] <;> omega
theorem shr_i64_byte (n : Int) (i : Nat) (hi : i < 8) : shr .i64 n (8 * i) % 256 = n / 256 ^ i % 256 := by
  unfold shr
  rcases (by omega : i = 0 ∨ i = 1 ∨ i = 2 ∨ i = 3 ∨ i = 4 ∨ i = 5 ∨ i = 6 ∨ i = 7) with rfl | rfl | rfl | rfl | rfl | rfl | rfl | rfl <;> simp [IntKind.bits]
theorem or_byte_nat (x b : Int) (hb : 0 ≤ b ∧ b < 256) : (BitVec.ofInt 64 (x * 256) ||| BitVec.ofInt 64 b) = BitVec.ofInt 64 (x * 256 + b) := by
  apply BitVec.eq_of_toNat_eq
  rw [BitVec.toNat_or, BitVec.toNat_ofInt, BitVec.toNat_ofInt, BitVec.toNat_ofInt]
  have e1 : (x * 256 % ((2 ^ 64 : Nat) : Int)).toNat = 2 ^ 8 * (x % 72057594037927936).toNat := by omega
  have e2 : (b % ((2 ^ 64 : Nat) : Int)).toNat = b.toNat := by omega
  rw [e1, e2, ← Nat.two_pow_add_eq_or_of_lt (show b.toNat < 2 ^ 8 by omega)]
  omega
theorem or_byte_u64 (x b : Int) (hb : 0 ≤ b ∧ b < 256) : Go.bits .or .u64 (IntKind.u64.wrap (x * 256)) (IntKind.u64.wrap b) = IntKind.u64.wrap (x * 256 + b) := by
  have e : ∀ y : Int, BitVec.ofInt 64 (IntKind.u64.wrap y) = BitVec.ofInt 64 y := by
    intro y
    apply BitVec.eq_of_toNat_eq
    rw [u64_wrap, BitVec.toNat_ofInt, BitVec.toNat_ofInt]
    omega
  show IntKind.u64.wrap ((BitVec.ofInt 64 (IntKind.u64.wrap (x * 256)) ||| BitVec.ofInt 64 (IntKind.u64.wrap b)).toNat : Int) = _
  rw [e, e, or_byte_nat x b hb, u64_wrap, u64_wrap, BitVec.toNat_ofInt]
  omega
theorem or_byte_i64 (x b : Int) (hb : 0 ≤ b ∧ b < 256) : Go.bits .or .i64 (wrap64 (x * 256)) (wrap64 b) = wrap64 (x * 256 + b) := by
  have e : ∀ y : Int, BitVec.ofInt 64 (wrap64 y) = BitVec.ofInt 64 y := by
    intro y
    apply BitVec.eq_of_toNat_eq
    unfold wrap64
    rw [BitVec.toNat_ofInt, BitVec.toNat_ofInt]
    omega
  show IntKind.i64.wrap ((BitVec.ofInt 64 (wrap64 (x * 256)) ||| BitVec.ofInt 64 (wrap64 b)).toNat : Int) = _
  rw [e, e, or_byte_nat x b hb, i64_wrap, BitVec.toNat_ofInt]
  unfold wrap64
  omega
theorem rd_getElem (l : List Int) (i : Nat) (h : i < l.length) : rd l i = l[i] := by simp [rd, h]
/-! ### what num's functions come to -/
def sizedS (s : Int) : Bool := s == 1 || s == 2 || s == 4 || s == 8
theorem sizedS_iff (s : Int) : sizedS s = true ↔ s = 1 ∨ s = 2 ∨ s = 4 ∨ s = 8 := by
  unfold sizedS
  simp [or_assoc]
def rightS (n s : Int) : Bool := s == 8 || sizedS s && decide (0 ≤ n) && decide (n < 256 ^ s.toNat)
theorem rightS_sized {n s : Int} (h : rightS n s = true) : s = 1 ∨ s = 2 ∨ s = 4 ∨ s = 8 := by
  unfold rightS at h
  simp only [Bool.or_eq_true, Bool.and_eq_true, beq_iff_eq, decide_eq_true_eq] at h
  rcases h with h | h
  · exact .inr (.inr (.inr h))
  · exact (sizedS_iff s).1 h.1.1
theorem rightS_4 (n : Int) : rightS n 4 = (decide (0 ≤ n) && decide (n < 4294967296)) := by simp [rightS, sizedS]
theorem rightS_2 (n : Int) : rightS n 2 = (decide (0 ≤ n) && decide (n < 65536)) := by simp [rightS, sizedS]
theorem rightS_1 (n : Int) : rightS n 1 = (decide (0 ≤ n) && decide (n < 256)) := by simp [rightS, sizedS]
theorem rightS_8 (n : Int) : rightS n 8 = true := by simp [rightS]
theorem rightS_range {n s : Int} (h : rightS n s = true) (h8 : s ≠ 8) : 0 ≤ n ∧ n < 256 ^ s.toNat := by
  unfold rightS at h
  simp only [Bool.or_eq_true, Bool.and_eq_true, beq_iff_eq, decide_eq_true_eq] at h
  rcases h with h | h
  · exact absurd h h8
  · exact ⟨h.1.2, h.2⟩
def putS (l : List Int) (n s : Int) : List Int := if rightS n s = true then l ++ be n s.toNat else l
theorem putS_bytes {l : List Int} (h : IsBytes l) (n s : Int) : IsBytes (putS l n s) := by
  unfold putS
  split
  · exact h.append (be_bytes _ _)
  · exact h
theorem putS_length (l : List Int) (n s : Int) : l.length ≤ (putS l n s).length ∧ (putS l n s).length ≤ l.length + 8 := by
  unfold putS
  split
  · rename_i h
    rw [List.length_append, be_length]
    have := rightS_sized h
    omega
  · omega
theorem putS_8 (l : List Int) (n : Int) : putS l n 8 = l ++ be n 8 := by unfold putS; rw [if_pos (rightS_8 n)]; rfl
def getS (l : List Int) (at_ s : Int) : Int × Int :=
  if sizedS s = true ∧ 0 ≤ at_ then (if at_ + s ≤ l.length then (wrap64 (beval ((l.drop at_.toNat).take s.toNat)), 0) else (0, 3)) else (0, 1)
theorem num_sized_tells (s : Int) : num_sized.f s = some (sizedS s) := by
  unfold num_sized.f sizedS
  by_cases h1 : s = 1
  · rw [if_pos h1]; subst h1; rfl
  · rw [if_neg h1]
    by_cases h2 : s = 2
    · rw [if_pos h2]; subst h2; rfl
    · rw [if_neg h2]
      by_cases h4 : s = 4
      · rw [if_pos h4]; subst h4; rfl
      · rw [if_neg h4]
        by_cases h8 : s = 8
        · rw [if_pos h8]; subst h8; rfl
        · rw [if_neg h8, beq_false_of_ne h1, beq_false_of_ne h2, beq_false_of_ne h4, beq_false_of_ne h8]; rfl
theorem num_right_tells (n s : Int) : num_Right.f n s = some (rightS n s) := by
  unfold num_Right.f rightS
  by_cases h8 : s = 8
  · rw [if_pos h8]; subst h8; rfl
  · rw [if_neg h8, num_sized_tells]
    simp only [Option.bind_some]
    rw [beq_false_of_ne h8, Bool.false_or]
    by_cases hs : sizedS s = true
    · rw [if_pos hs, hs, Bool.true_and]
      by_cases hn : n ≥ 0
      · rw [if_pos hn, decide_eq_true (show 0 ≤ n from hn), Bool.true_and]
        have h3 : s = 1 ∨ s = 2 ∨ s = 4 := by rcases (sizedS_iff s).1 hs with h | h | h | h <;> simp_all
        have hw : wrap64 (8 * s) = 8 * s := by unfold wrap64; omega
        rw [hw, if_pos (by omega)]
        congr 1
        rw [Bool.eq_iff_iff, beq_iff_eq, decide_eq_true_eq]
        unfold shr
        rcases h3 with rfl | rfl | rfl <;> simp [IntKind.bits] <;> omega
      · rw [if_neg hn, decide_eq_false (show ¬ 0 ≤ n from hn)]; rfl
    · rw [if_neg hs, Bool.eq_false_iff.mpr hs]; rfl
theorem num_put_l0 : ∀ (i k : Nat) (n : Int) (l : List Int), i ≤ 8 → i < k → l.length + i < 140737488355328 → num_Put.l0 k n l (8 * i - 8) = some (l ++ be n i)
  | 0, k, n, l, _, hk, _ => by
    obtain ⟨k, rfl⟩ : ∃ m, k = m + 1 := ⟨k - 1, by omega⟩
    simp only [num_Put.l0]
    rw [if_neg (by omega)]
    simp [be]
  | i + 1, k, n, l, hi, hk, hl => by
    obtain ⟨k, rfl⟩ : ∃ m, k = m + 1 := ⟨k - 1, by omega⟩
    simp only [num_Put.l0]
    rw [if_pos (by omega), if_pos (by omega), if_pos (by omega)]
    have e1 : (8 * ((i + 1 : Nat) : Int) - 8) = 8 * (i : Int) := by omega
    rw [e1, shr_u64_byte n i (by omega), show wrap64 (8 * (i : Int) - 8) = 8 * (i : Int) - 8 by unfold wrap64; omega]
    rw [num_put_l0 i k n _ (by omega) (by omega) (by rw [List.length_append, List.length_singleton]; omega), be_front, List.append_assoc]
    rfl
theorem num_put_tells (k : Nat) (hk : 9 < k) (l : List Int) (n s : Int) (hl : l.length + 8 < 140737488355328) : num_Put.f k l n s = some (putS l n s) := by
  unfold num_Put.f putS
  rw [if_pos (by omega), if_pos (by omega), if_pos (by omega), num_right_tells]
  simp only [Option.bind_some, Int.toNat_natCast]
  have e : l.take (List.replicate l.length (0 : Int)).length ++ (List.replicate l.length (0 : Int)).drop l.length = l := by simp
  rw [e]
  by_cases h : rightS n s = true
  · rw [if_pos h, if_pos h]
    have hs := rightS_sized h
    have e2 : wrap64 (8 * wrap64 (s - 1)) = 8 * (s.toNat : Int) - 8 := by unfold wrap64; omega
    rw [e2]
    exact num_put_l0 s.toNat k n l (by omega) (by omega) (by omega)
  · rw [if_neg h, if_neg h]
theorem pow_le_64 (i : Nat) (h : i ≤ 8) : (256 : Int) ^ i ≤ 18446744073709551616 := by
  rcases (by omega : i = 0 ∨ i = 1 ∨ i = 2 ∨ i = 3 ∨ i = 4 ∨ i = 5 ∨ i = 6 ∨ i = 7 ∨ i = 8) with rfl | rfl | rfl | rfl | rfl | rfl | rfl | rfl | rfl <;> decide
theorem rd_byte {l : List Int} (h : IsBytes l) (i : Nat) (hi : i < l.length) : 0 ≤ rd l i ∧ rd l i < 256 := by
  have : rd l i = l[i] := by simp [rd, hi]
  rw [this]
  exact h _ (List.getElem_mem hi)
theorem num_get_l0 (ys : List Int) (hy : IsBytes ys) (h8 : ys.length ≤ 8) : ∀ (d k i : Nat), i + d = ys.length → d < k → num_Get.l0 k (beval (ys.take i)) ys ys.length i = some (wrap64 (beval ys), 0)
  | 0, k, i, hd, hk => by
    obtain ⟨k, rfl⟩ : ∃ m, k = m + 1 := ⟨k - 1, by omega⟩
    simp only [num_Get.l0]
    rw [if_neg (by omega), List.take_of_length_le (by omega)]
  | d + 1, k, i, hd, hk => by
    obtain ⟨k, rfl⟩ : ∃ m, k = m + 1 := ⟨k - 1, by omega⟩
    simp only [num_Get.l0]
    rw [if_pos (by omega), if_pos (by omega), if_pos (by omega)]
    have hb := rd_byte hy i (by omega)
    have hv := beval_bound (ys.take (i + 1)) (hy.take _)
    rw [List.length_take, Nat.min_eq_left (by omega)] at hv
    have hp := pow_le_64 (i + 1) (by omega)
    rw [or_byte_u64 _ _ hb, ← beval_take_succ ys i (by omega), u64_wrap, Int.emod_eq_of_lt hv.1 (by omega)]
    rw [show wrap64 ((i : Int) + 1) = ((i + 1 : Nat) : Int) by unfold wrap64; omega]
    exact num_get_l0 ys hy h8 d k (i + 1) (by omega) (by omega)
theorem num_get_tells (k : Nat) (hk : 12 < k) (l : List Int) (hl : IsBytes l) (hn : l.length ≤ 140737488355328) (a s : Int) (ha : (Lit.int .i64 a).wf = true) : num_Get.f k l a s = some (getS l a s) := by
  obtain ⟨k, rfl⟩ : ∃ m, k = m + 2 := ⟨k - 2, by omega⟩
  have ba := bounds_i64 ha
  unfold num_Get.f getS
  rw [num_sized_tells]
  simp only [Option.bind_some]
  by_cases hs : sizedS s = true
  · rw [if_pos hs]
    have h4 := (sizedS_iff s).1 hs
    by_cases h0 : a < 0
    · rw [decide_eq_true h0, if_neg (by omega)]
      simp [num_Get.j0]
    · rw [decide_eq_false h0, if_pos ⟨hs, by omega⟩]
      simp only [num_Get.j0]
      rw [if_neg (by decide)]
      by_cases hle : a + s ≤ l.length
      · rw [if_neg (by omega), if_pos hle, decide_eq_false (by unfold wrap64; omega)]
        simp only [num_Get.j1]
        have hw : wrap64 (a + s) = a + s := by unfold wrap64; omega
        rw [if_neg (by decide), hw, if_pos (by omega), if_pos (by omega), if_pos (by omega)]
        simp only [Option.bind_some]
        have e : (l.take (a + s).toNat).drop a.toNat = (l.drop a.toNat).take s.toNat := by
          rw [List.drop_take]; congr 1; omega
        rw [e]
        have hlen : ((l.drop a.toNat).take s.toNat).length ≤ 8 := by rw [List.length_take]; omega
        exact num_get_l0 _ ((hl.drop _).take _) hlen _ k 0 (Nat.zero_add _) (by omega)
      · rw [if_neg hle]
        by_cases hlt : (l.length : Int) < s
        · rw [if_pos hlt]
          simp [num_Get.j1]
        · rw [if_neg hlt, decide_eq_true (by unfold wrap64; omega)]
          simp [num_Get.j1]
  · rw [if_neg hs, if_neg (fun h => hs h.1)]
    simp [num_Get.j0]
/-! ### what field's functions come to -/
def packB (l : List Int) : List Int := l.flatMap fun n => be n 8
def packS (l : List Int) : List Int := packB (l.take 15)
theorem packB_cons (n : Int) (l : List Int) : packB (n :: l) = be n 8 ++ packB l := rfl
theorem packB_append (l m : List Int) : packB (l ++ m) = packB l ++ packB m := by simp [packB]
theorem packB_length : ∀ l : List Int, (packB l).length = 8 * l.length
  | [] => rfl
  | n :: l => by rw [packB_cons, List.length_append, be_length, packB_length l, List.length_cons]; omega
theorem packB_bytes : ∀ l : List Int, IsBytes (packB l)
  | [] => IsBytes.nil
  | n :: l => by rw [packB_cons]; exact (be_bytes _ _).append (packB_bytes l)
theorem packS_length (l : List Int) : (packS l).length = 8 * min 15 l.length := by rw [packS, packB_length, List.length_take]
theorem packS_bytes (l : List Int) : IsBytes (packS l) := packB_bytes _
def valAt (b : List Int) (i : Nat) : Int := wrap64 (beval ((b.drop (8 * i)).take 8))
def unpackS (b : List Int) (many : Int) : List Int × Int :=
  if many < 0 ∨ many > 15 then ([], 1) else if (b.length : Int) ≠ 8 * many then ([], 4) else ((List.range many.toNat).map (valAt b), 0)
theorem getS_valAt (b : List Int) (i : Nat) (h : 8 * i + 8 ≤ b.length) : getS b (8 * (i : Int)) 8 = (valAt b i, 0) := by
  unfold getS valAt
  rw [if_pos ⟨rfl, by omega⟩, if_pos (by omega), show (8 * (i : Int)).toNat = 8 * i by omega]
  rfl
theorem valAt_packB : ∀ (l : List Int) (i : Nat) (h : i < l.length), (∀ x ∈ l, (Lit.int .i64 x).wf = true) → valAt (packB l) i = l[i]
  | n :: l, 0, _, hw => by
    have bn := bounds_i64 (hw n (by simp))
    unfold valAt
    rw [packB_cons, List.drop_zero, List.take_append_of_le_length (by rw [be_length]; omega), List.take_of_length_le (by rw [be_length]; omega), beval_be]
    show wrap64 (n % 256 ^ 8) = n
    rw [show (256 : Int) ^ 8 = 18446744073709551616 by decide]
    unfold wrap64
    omega
  | n :: l, i + 1, h, hw => by
    have ih := valAt_packB l i (by simpa using h) (fun x hx => hw x (by simp [hx]))
    unfold valAt at ih ⊢
    rw [packB_cons, show 8 * (i + 1) = (be n 8).length + 8 * i by rw [be_length]; omega, List.drop_append, List.drop_eq_nil_of_le (by omega), List.nil_append, Nat.add_sub_cancel_left, ih]
    rfl
theorem unpackS_packS (l : List Int) (hl : l.length ≤ 15) (hw : ∀ x ∈ l, (Lit.int .i64 x).wf = true) : unpackS (packS l) l.length = (l, 0) := by
  unfold unpackS packS
  rw [List.take_of_length_le hl, if_neg (by omega), if_neg (by rw [packB_length]; omega), Int.toNat_natCast]
  congr 1
  apply List.ext_getElem
  · simp
  · intro i h1 h2
    rw [List.getElem_map, List.getElem_range]
    exact valAt_packB l i h2 hw
theorem field_pack_l0 (ys : List Int) (hy : ys.length ≤ 15) : ∀ (d k i : Nat) (acc : List Int), i + d = ys.length → d + 12 < k → acc.length ≤ 8 * i → field_Pack.l0 k acc ys ys.length i = some (acc ++ packB (ys.drop i))
  | 0, k, i, acc, hd, hk, _ => by
    obtain ⟨k, rfl⟩ : ∃ m, k = m + 1 := ⟨k - 1, by omega⟩
    simp only [field_Pack.l0]
    rw [if_neg (by omega), List.drop_eq_nil_of_le (by omega)]
    simp [packB]
  | d + 1, k, i, acc, hd, hk, ha => by
    obtain ⟨k, rfl⟩ : ∃ m, k = m + 1 := ⟨k - 1, by omega⟩
    simp only [field_Pack.l0]
    rw [if_pos (by omega), if_pos (by omega), if_pos (by omega), num_put_tells k (by omega) _ _ _ (by omega), putS_8]
    simp only [Option.bind_some]
    rw [show wrap64 ((i : Int) + 1) = ((i + 1 : Nat) : Int) by unfold wrap64; omega, field_pack_l0 ys hy d k (i + 1) _ (by omega) (by omega) (by rw [List.length_append, be_length]; omega)]
    rw [List.drop_eq_getElem_cons (show i < ys.length by omega), packB_cons, rd_getElem ys i (by omega), List.append_assoc]
theorem field_pack_tells (k : Nat) (hk : 30 < k) (l : List Int) : field_Pack.f k l = some (packS l) := by
  have hm : mn (l.length : Int) 15 = ((min 15 l.length : Nat) : Int) := by unfold mn; split <;> omega
  unfold field_Pack.f packS
  rw [hm, if_pos (by omega), if_pos (by omega), Int.toNat_natCast]
  have ht : l.take (min 15 l.length) = l.take 15 := by rw [List.take_eq_take_iff]; omega
  simp only [Option.bind_some]
  rw [ht]
  have := field_pack_l0 (l.take 15) (by rw [List.length_take]; omega) (l.take 15).length k 0 [] (by omega) (by rw [List.length_take]; omega) (by simp)
  simpa using this
theorem range'_map_cons (f : Nat → Int) (i d : Nat) : (List.range' i (d + 1)).map f = f i :: (List.range' (i + 1) d).map f := by rw [List.range'_succ]; rfl
theorem field_unpack_l0 (b : List Int) (hb : IsBytes b) (hn : b.length ≤ 140737488355328) (m : Nat) (hm : 8 * m ≤ b.length) (h15 : m ≤ 15) : ∀ (d k i : Nat) (xs : List Int), i + d = m → xs.length = m → d + 14 < k → field_Unpack.l0 k b xs m i = some (xs.take i ++ (List.range' i d).map (valAt b), 0)
  | 0, k, i, xs, hd, hx, hk => by
    obtain ⟨k, rfl⟩ : ∃ m, k = m + 1 := ⟨k - 1, by omega⟩
    simp only [field_Unpack.l0]
    rw [if_neg (by omega), List.take_of_length_le (by omega)]
    simp
  | d + 1, k, i, xs, hd, hx, hk => by
    obtain ⟨k, rfl⟩ : ∃ m, k = m + 1 := ⟨k - 1, by omega⟩
    simp only [field_Unpack.l0]
    rw [if_pos (by omega), show wrap64 (8 * (i : Int)) = 8 * (i : Int) by unfold wrap64; omega, num_get_tells k (by omega) b hb hn _ _ (WalkArith.wf_i64 (by omega)), getS_valAt b i (by omega)]
    simp only [Option.bind_some, Int.toNat_natCast]
    rw [if_pos (by omega), if_pos (by omega), show wrap64 ((i : Int) + 1) = ((i + 1 : Nat) : Int) by unfold wrap64; omega]
    rw [field_unpack_l0 b hb hn m hm h15 d k (i + 1) _ (by omega) (by rw [List.length_set]; exact hx) (by omega), range'_map_cons]
    congr 2
    rw [List.take_succ_eq_append_getElem (by rw [List.length_set]; omega), List.take_set_of_le (by omega)]
    simp
theorem field_unpack_tells (k : Nat) (hk : 31 < k) (b : List Int) (hb : IsBytes b) (hn : b.length ≤ 140737488355328) (many : Int) : field_Unpack.f k b many = some (unpackS b many) := by
  obtain ⟨k, rfl⟩ : ∃ m, k = m + 1 := ⟨k - 1, by omega⟩
  unfold field_Unpack.f unpackS
  by_cases h0 : many < 0
  · rw [if_pos h0, if_pos (.inl h0)]
    simp [field_Unpack.j0]
  · rw [if_neg h0]
    by_cases h1 : many > 15
    · rw [decide_eq_true h1, if_pos (.inr h1)]
      simp [field_Unpack.j0]
    · rw [decide_eq_false h1, if_neg (by omega)]
      simp only [field_Unpack.j0]
      rw [if_neg (by decide), show wrap64 (8 * many) = 8 * many by unfold wrap64; omega]
      by_cases h2 : (b.length : Int) = 8 * many
      · rw [if_pos h2, if_pos (by omega), if_pos (by omega), if_neg (show ¬ ((b.length : Int) ≠ 8 * many) by omega)]
        simp only [Option.bind_some, List.length_replicate]
        have := field_unpack_l0 b hb hn many.toNat (by omega) (by omega) many.toNat k 0 (List.replicate many.toNat 0) (by omega) (by simp) (by omega)
        rw [List.take_zero, List.nil_append] at this
        rw [List.range_eq_range']
        exact this
      · rw [if_neg h2, if_pos h2]
/-! ### keys -/
def clampS (n : Int) : Int := mn (mx n 0) 4294967295
theorem clampS_range (n : Int) : 0 ≤ clampS n ∧ clampS n < 4294967296 := by unfold clampS mn mx; split <;> split <;> omega
theorem clampS_id {n : Int} (h : 0 ≤ n ∧ n < 4294967296) : clampS n = n := by unfold clampS mn mx; split <;> split <;> omega
theorem putS_4 (l : List Int) (n : Int) (h : 0 ≤ n ∧ n < 4294967296) : putS l n 4 = l ++ be n 4 := by
  unfold putS; rw [rightS_4, if_pos (by simp; omega)]; rfl
def wordsS (l : List Int) : List Int := l.flatMap fun n => be (clampS n) 4
theorem wordsS_cons (n : Int) (l : List Int) : wordsS (n :: l) = be (clampS n) 4 ++ wordsS l := rfl
theorem wordsS_length : ∀ l : List Int, (wordsS l).length = 4 * l.length
  | [] => rfl
  | n :: l => by rw [wordsS_cons, List.length_append, be_length, wordsS_length l, List.length_cons]; omega
theorem wordsS_bytes : ∀ l : List Int, IsBytes (wordsS l)
  | [] => IsBytes.nil
  | n :: l => by rw [wordsS_cons]; exact (be_bytes _ _).append (wordsS_bytes l)
def keyS (tag : Int) (l : List Int) : List Int := tag :: wordsS (l.take 7)
theorem keyS_bytes {tag : Int} (ht : 0 ≤ tag ∧ tag < 256) (l : List Int) : IsBytes (keyS tag l) := (IsBytes.one ht).append (wordsS_bytes _)
theorem keyS_length (tag : Int) (l : List Int) : (keyS tag l).length = 1 + 4 * min 7 l.length := by unfold keyS; rw [List.length_cons, wordsS_length, List.length_take]; omega
theorem rd_at (l : List Int) (i : Nat) (h : i < l.length) : rd l (i : Int) = l[i] := by unfold rd; rw [Int.toNat_natCast, List.getD_eq_getElem?_getD, List.getElem?_eq_getElem h]; rfl
def numsS : Nat → List Int → List Int
  | 0, _ => []
  | m + 1, l => beval (l.take 4) :: numsS m (l.drop 4)
theorem numsS_length : ∀ (m : Nat) (l : List Int), (numsS m l).length = m
  | 0, _ => rfl
  | m + 1, l => by rw [numsS, List.length_cons, numsS_length m]
theorem numsS_words : ∀ (l : List Int), numsS l.length (wordsS l) = l.map clampS
  | [] => rfl
  | n :: l => by
    have h := clampS_range n
    rw [wordsS_cons, List.length_cons, numsS, List.take_append_of_le_length (by rw [be_length]; omega), List.take_of_length_le (by rw [be_length]; omega), List.drop_append_of_le_length (by rw [be_length]; omega), List.drop_of_length_le (by rw [be_length]; omega), List.nil_append, numsS_words l, beval_be, List.map_cons]
    congr 1
    omega
def splitS (l : List Int) : Int × List Int × Bool := if 1 ≤ l.length ∧ l.length ≤ 29 ∧ l.length % 4 = 1 then (rd l 0, numsS ((l.length - 1) / 4) (l.drop 1), true) else (0, [], false)
theorem splitS_numbers (l : List Int) : (splitS l).2.1.length ≤ 7 := by
  unfold splitS
  split
  · show (numsS _ _).length ≤ 7; rw [numsS_length]; omega
  · exact Nat.zero_le _
theorem splitS_keyS (tag : Int) (l : List Int) (h : l.length ≤ 7) : splitS (keyS tag l) = (tag, l.map clampS, true) := by
  have hl := keyS_length tag l
  unfold splitS
  rw [if_pos (by omega), hl]
  have e : keyS tag l = tag :: wordsS l := by unfold keyS; rw [List.take_of_length_le h]
  rw [e, List.drop_succ_cons, List.drop_zero, show (1 + 4 * min 7 l.length - 1) / 4 = l.length by omega, numsS_words]
  rfl
theorem get4 (l : List Int) (hl : IsBytes l) (i : Nat) (h : i + 4 ≤ l.length) : getS l (i : Int) 4 = (beval ((l.drop i).take 4), 0) := by
  have hb := beval_bound _ ((hl.drop i).take 4)
  rw [List.length_take, List.length_drop, show min 4 (l.length - i) = 4 by omega] at hb
  unfold getS
  rw [if_pos ⟨by decide, by omega⟩, if_pos (by omega), Int.toNat_natCast, show (4 : Int).toNat = 4 from rfl, show wrap64 (beval ((l.drop i).take 4)) = beval ((l.drop i).take 4) by unfold wrap64; omega]
theorem keys_key_l0 (ys : List Int) (hy : ys.length ≤ 7) : ∀ (d k i : Nat) (b : List Int), i + d = ys.length → d + 12 < k → b.length + 4 * d ≤ 1000 → keys_Key.l0 k b ys (ys.length : Int) (i : Int) = some (b ++ wordsS (ys.drop i))
  | d, 0, _, _, _, h, _ => by omega
  | 0, k + 1, i, b, hi, _, _ => by
    rw [keys_Key.l0, if_neg (by omega), List.drop_of_length_le (by omega)]
    simp [wordsS]
  | d + 1, k + 1, i, b, hi, hk, hb => by
    have hr := clampS_range (rd ys i)
    rw [keys_Key.l0, if_pos (by omega), if_pos (by omega), if_pos (by omega), num_put_tells k (by omega) _ _ _ (by omega), Option.bind_some, show mn (mx (rd ys i) 0) 4294967295 = clampS (rd ys i) from rfl, putS_4 _ _ hr, show wrap64 ((i : Int) + 1) = ((i + 1 : Nat) : Int) by unfold wrap64; omega,
      keys_key_l0 ys hy d k (i + 1) _ (by omega) (by omega) (by rw [List.length_append, be_length]; omega), List.drop_eq_getElem_cons (show i < ys.length by omega), wordsS_cons, rd_at ys i (by omega), List.append_assoc]
theorem keys_key_tells (k : Nat) (hk : 30 < k) (tag : Int) (l : List Int) : keys_Key.f k tag l = some (keyS tag l) := by
  have hm : mn (l.length : Int) 7 = ((min 7 l.length : Nat) : Int) := by unfold mn; split <;> omega
  unfold keys_Key.f
  rw [hm, if_pos (by omega), if_pos (by omega), Option.bind_some, Int.toNat_natCast, show l.take (min 7 l.length) = l.take 7 by rw [← List.take_take, List.take_of_length_le (Nat.le_refl _)]]
  have := keys_key_l0 (l.take 7) (List.length_take_le _ _) (l.take 7).length k 0 [tag] (by omega) (by have := List.length_take_le 7 l; omega) (by have := List.length_take_le 7 l; simp only [List.length_singleton]; omega)
  rw [show ((0 : Nat) : Int) = 0 from rfl, List.drop_zero] at this
  rw [this]; rfl
theorem keys_split_l0 (x rest : List Int) (hx : 0 < x.length) (hr : IsBytes rest) (m : Nat) (hm : rest.length = 4 * m) (h7 : m ≤ 7) : ∀ (d k i : Nat) (acc : List Int), i + d = m → d + 14 < k → acc.length + d ≤ 1000 → keys_Split.l0 k x rest acc ((4 * i : Nat) : Int) = some (rd x 0, acc ++ numsS d (rest.drop (4 * i)), true)
  | d, 0, _, _, _, h, _ => by omega
  | 0, k + 1, i, acc, hi, _, _ => by
    rw [keys_Split.l0, if_neg (by omega), if_pos (by omega), numsS, List.append_nil]
  | d + 1, k + 1, i, acc, hi, hk, ha => by
    rw [keys_Split.l0, if_pos (by omega), num_get_tells k (by omega) _ hr (by omega) _ _ (WalkArith.wf_i64 (by omega)), Option.bind_some, get4 _ hr _ (by omega), if_pos (by omega), show wrap64 (((4 * i : Nat) : Int) + 4) = ((4 * (i + 1) : Nat) : Int) by unfold wrap64; omega,
      keys_split_l0 x rest hx hr m hm h7 d k (i + 1) _ (by omega) (by omega) (by rw [List.length_append]; simp only [List.length_singleton]; omega), numsS, List.drop_drop, List.append_assoc, show 4 * i + 4 = 4 * (i + 1) by omega]
    rfl
theorem keys_split_tells (k : Nat) (hk : 30 < k) (l : List Int) (hl : IsBytes l) (hn : l.length ≤ 4000) : keys_Split.f k l = some (splitS l) := by
  obtain ⟨k, rfl⟩ : ∃ j, k = j + 1 := ⟨k - 1, by omega⟩
  unfold keys_Split.f splitS
  by_cases h0 : (l.length : Int) = 0
  · rw [if_pos h0, if_neg (by omega)]
  · rw [if_neg h0, if_pos (by omega), Option.bind_some]
    have hd : (l.drop 1).length = l.length - 1 := List.length_drop
    by_cases h4 : ((l.drop 1).length : Int) % 4 = 0
    · rw [if_pos h4, keys_Split.j0]
      by_cases h28 : ((l.drop 1).length : Int) > 28
      · rw [if_pos (by simpa using h28), if_neg (by omega)]
      · rw [if_neg (by simpa using h28), if_pos (by omega)]
        have := keys_split_l0 l (l.drop 1) (by omega) (hl.drop 1) ((l.length - 1) / 4) (by omega) (by omega) ((l.length - 1) / 4) k 0 [] (by omega) (by omega) (by simp only [List.length_nil]; omega)
        rw [show ((4 * 0 : Nat) : Int) = 0 from rfl, Nat.mul_zero, List.drop_zero, List.nil_append] at this
        exact this
    · rw [if_neg h4, keys_Split.j0, if_pos rfl, if_neg (by omega)]
/-! ### records as pairs -/
theorem table_pair_tells (k : Nat) (hk : 30 < k) (tag n v : Int) (l : List Int) (h0 : 0 ≤ n) (h1 : n ≤ l.length) : recs_table_pair.f k tag n v l = some (keyS tag (l.take n.toNat), packS (l.drop n.toNat)) := by
  unfold recs_table_pair.f
  rw [if_pos h0, if_pos h1, keys_key_tells k hk, Option.bind_some, field_pack_tells k hk, Option.bind_some]
def bitS (b : Bool) : Int := if b = true then 1 else 0
theorem bit_tells (b : Bool) : recs_bit.f b = some (bitS b) := by unfold recs_bit.f bitS; cases b <;> rfl
theorem node_tells (k : Nat) (hk : 30 < k) (a b c d e : Int) (f : Bool) (g h i j l m : Int) : recs_Node.f k a b c d e f g h i j l m = some (keyS 78 [a, b], packS [c, d, e, bitS f, g, h, i, j, l, m]) := by
  unfold recs_Node.f recs_nodes.f
  rw [Option.bind_some, bit_tells, Option.bind_some, table_pair_tells k hk _ _ _ _ (by decide) (by simp), Option.bind_some]
  rfl
theorem doc_tells (k : Nat) (hk : 30 < k) (a b c d e : Int) : recs_Doc.f k a b c d e = some (keyS 68 [a], packS [b, c, d, e]) := by
  unfold recs_Doc.f recs_documents.f
  rw [Option.bind_some, table_pair_tells k hk _ _ _ _ (by decide) (by simp), Option.bind_some]
  rfl
theorem docline_tells (k : Nat) (hk : 30 < k) (x y a b c d : Int) : recs_DocLine.f k x y a b c d = some (keyS 76 [x, y], packS [a, b, c, d]) := by
  unfold recs_DocLine.f recs_docLines.f
  rw [Option.bind_some, table_pair_tells k hk _ _ _ _ (by decide) (by simp), Option.bind_some]
  rfl
theorem entry_tells (k : Nat) (hk : 30 < k) (a b c d e f : Int) : recs_Entry.f k a b c d e f = some (keyS 69 [a], packS [b, c, d, e, f]) := by
  unfold recs_Entry.f recs_entries.f
  rw [Option.bind_some, table_pair_tells k hk _ _ _ _ (by decide) (by simp), Option.bind_some]
  rfl
theorem line_tells (k : Nat) (hk : 30 < k) (x y a b c d : Int) : recs_Line.f k x y a b c d = some (keyS 74 [x, y], packS [a, b, d]) := by
  unfold recs_Line.f recs_lines.f
  rw [Option.bind_some, table_pair_tells k hk _ _ _ _ (by decide) (by simp), Option.bind_some]
  rfl
def okS (tag nk nv : Int) (key val : List Int) : Bool := (splitS key).2.2 && (decide ((splitS key).1 = tag) && (decide (((splitS key).2.1.length : Int) = nk) && decide ((unpackS val nv).2 = 0)))
theorem unpackS_length {b : List Int} {n : Int} (h0 : 0 ≤ n) (h1 : n ≤ 15) (h : (unpackS b n).2 = 0) : ((unpackS b n).1.length : Int) = n := by
  unfold unpackS at h ⊢
  rw [if_neg (by omega)] at h ⊢
  by_cases hl : (b.length : Int) ≠ 8 * n
  · rw [if_pos hl] at h; exact absurd h (by decide)
  · rw [if_neg hl]; simp; omega
theorem unpackS_numbers (b : List Int) (n : Int) : (unpackS b n).1.length ≤ 15 := by
  unfold unpackS
  split
  · simp
  · split
    · simp
    · simp; omega
theorem nums_ok (k : Nat) (hk : 31 < k) (tag nk nv : Int) (key val : List Int) (hb : IsBytes key) (hn : key.length ≤ 4000) (hv : IsBytes val) (hvn : val.length ≤ 4000) (h : okS tag nk nv key val = true) : recs_table_nums.f k tag nk nv key val = some ((splitS key).2.1 ++ (unpackS val nv).1, true) := by
  unfold okS at h
  simp only [Bool.and_eq_true, decide_eq_true_eq] at h
  obtain ⟨h1, h2, h3, h4⟩ := h
  have hl := splitS_numbers key
  have hl2 := unpackS_numbers val nv
  unfold recs_table_nums.f
  rw [keys_split_tells k (by omega) _ hb hn, Option.bind_some, if_pos h1, if_pos h2, if_pos h3, field_unpack_tells k hk _ hv (by omega), Option.bind_some, if_pos (by omega), h4]
  rfl
theorem nums_no (k : Nat) (hk : 31 < k) (tag nk nv : Int) (key val : List Int) (hb : IsBytes key) (hn : key.length ≤ 4000) (hv : IsBytes val) (hvn : val.length ≤ 4000) (h : okS tag nk nv key val = false) : ∃ l, recs_table_nums.f k tag nk nv key val = some (l, false) := by
  have hl := splitS_numbers key
  have hl2 := unpackS_numbers val nv
  unfold recs_table_nums.f
  rw [keys_split_tells k (by omega) _ hb hn, Option.bind_some]
  by_cases h1 : (splitS key).2.2 = true
  · rw [if_pos h1]
    by_cases h2 : (splitS key).1 = tag
    · rw [if_pos h2]
      by_cases h3 : ((splitS key).2.1.length : Int) = nk
      · rw [if_pos h3, field_unpack_tells k hk _ hv (by omega), Option.bind_some, if_pos (by omega)]
        have h4 : (unpackS val nv).2 ≠ 0 := by
          intro h4
          unfold okS at h
          rw [h1, decide_eq_true h2, decide_eq_true h3, decide_eq_true h4] at h
          exact absurd h (by decide)
        exact ⟨_, by rw [beq_false_of_ne h4]⟩
      · rw [if_neg h3]; exact ⟨_, rfl⟩
    · rw [if_neg h2]; exact ⟨_, rfl⟩
  · rw [if_neg h1]; exact ⟨_, rfl⟩
theorem ok_shape {tag nk nv : Int} {key val : List Int} (h0 : 0 ≤ nv) (h15 : nv ≤ 15) (h : okS tag nk nv key val = true) : ((splitS key).2.1.length : Int) = nk ∧ ((unpackS val nv).1.length : Int) = nv := by
  unfold okS at h
  simp only [Bool.and_eq_true, decide_eq_true_eq] at h
  exact ⟨h.2.2.1, unpackS_length h0 h15 h.2.2.2⟩
theorem nums_back (k : Nat) (hk : 31 < k) (tag nk nv : Int) (l m : List Int) (ht : 0 ≤ tag ∧ tag < 256) (hl : (l.length : Int) = nk) (hm : (m.length : Int) = nv) (h7 : l.length ≤ 7) (h15 : m.length ≤ 15) (hk0 : ∀ x ∈ l, 0 ≤ x ∧ x < 4294967296) (hw : ∀ x ∈ m, (Lit.int .i64 x).wf = true) : recs_table_nums.f k tag nk nv (keyS tag l) (packS m) = some (l ++ m, true) := by
  have e1 : splitS (keyS tag l) = (tag, l, true) := by
    rw [splitS_keyS tag l h7, show l.map clampS = l from (List.map_congr_left (g := id) (fun x hx => clampS_id (hk0 x hx))).trans (List.map_id l)]
  have e2 : unpackS (packS m) nv = (m, 0) := by rw [← hm, unpackS_packS m h15 hw]
  have hok : okS tag nk nv (keyS tag l) (packS m) = true := by
    unfold okS; rw [e1, e2]; simp [hl]
  rw [nums_ok k hk _ _ _ _ _ (keyS_bytes ht l) (by rw [keyS_length]; omega) (packS_bytes m) (by rw [packS_length]; omega) hok, e1, e2]
theorem wf_all {l : List Int} (h : l.all (fun x => (Lit.int .i64 x).wf) = true) : ∀ x ∈ l, (Lit.int .i64 x).wf = true := fun x hx => List.all_eq_true.1 h x hx
theorem bitS_ne (b : Bool) : (bitS b != 0) = b := by cases b <;> rfl
theorem bitS_wf (b : Bool) : (Lit.int .i64 (bitS b)).wf = true := by cases b <;> decide
theorem node_back (k : Nat) (hk : 31 < k) (a0 a1 c0 c1 c2 c4 c5 c6 c7 c8 c9 : Int) (f : Bool) (ha0 : 0 ≤ a0 ∧ a0 < 4294967296) (ha1 : 0 ≤ a1 ∧ a1 < 4294967296) (hc0 : (Lit.int .i64 c0).wf = true) (hc1 : (Lit.int .i64 c1).wf = true) (hc2 : (Lit.int .i64 c2).wf = true) (hc4 : (Lit.int .i64 c4).wf = true) (hc5 : (Lit.int .i64 c5).wf = true) (hc6 : (Lit.int .i64 c6).wf = true) (hc7 : (Lit.int .i64 c7).wf = true) (hc8 : (Lit.int .i64 c8).wf = true) (hc9 : (Lit.int .i64 c9).wf = true) : recs_NodeOf.f k (keyS 78 [a0, a1]) (packS [c0, c1, c2, bitS f, c4, c5, c6, c7, c8, c9]) = some (a0, a1, c0, c1, c2, f, c4, c5, c6, c7, c8, c9, true) := by
  unfold recs_NodeOf.f recs_nodes.f
  rw [Option.bind_some, nums_back k hk 78 2 10 [a0, a1] [c0, c1, c2, bitS f, c4, c5, c6, c7, c8, c9] (by decide) rfl rfl (by simp) (by simp) (by simp; omega) (wf_all (by simp [hc0, hc1, hc2, bitS_wf, hc4, hc5, hc6, hc7, hc8, hc9])), Option.bind_some, if_pos rfl]
  show some (a0, a1, c0, c1, c2, (bitS f != 0), c4, c5, c6, c7, c8, c9, true) = _
  rw [bitS_ne]
theorem doc_back (k : Nat) (hk : 31 < k) (a0 c0 c1 c2 c3 : Int) (ha0 : 0 ≤ a0 ∧ a0 < 4294967296) (hc0 : (Lit.int .i64 c0).wf = true) (hc1 : (Lit.int .i64 c1).wf = true) (hc2 : (Lit.int .i64 c2).wf = true) (hc3 : (Lit.int .i64 c3).wf = true) : recs_DocOf.f k (keyS 68 [a0]) (packS [c0, c1, c2, c3]) = some (a0, c0, c1, c2, c3, true) := by
  unfold recs_DocOf.f recs_documents.f
  rw [Option.bind_some, nums_back k hk 68 1 4 [a0] [c0, c1, c2, c3] (by decide) rfl rfl (by simp) (by simp) (by simp; omega) (wf_all (by simp [hc0, hc1, hc2, hc3])), Option.bind_some, if_pos rfl]
  rfl
theorem docline_back (k : Nat) (hk : 31 < k) (a0 a1 c0 c1 c2 c3 : Int) (ha0 : 0 ≤ a0 ∧ a0 < 4294967296) (ha1 : 0 ≤ a1 ∧ a1 < 4294967296) (hc0 : (Lit.int .i64 c0).wf = true) (hc1 : (Lit.int .i64 c1).wf = true) (hc2 : (Lit.int .i64 c2).wf = true) (hc3 : (Lit.int .i64 c3).wf = true) : recs_DocLineOf.f k (keyS 76 [a0, a1]) (packS [c0, c1, c2, c3]) = some (c0, c1, c2, c3, true) := by
  unfold recs_DocLineOf.f recs_docLines.f
  rw [Option.bind_some, nums_back k hk 76 2 4 [a0, a1] [c0, c1, c2, c3] (by decide) rfl rfl (by simp) (by simp) (by simp; omega) (wf_all (by simp [hc0, hc1, hc2, hc3])), Option.bind_some, if_pos rfl]
  rfl
theorem entry_back (k : Nat) (hk : 31 < k) (a0 c0 c1 c2 c3 c4 : Int) (ha0 : 0 ≤ a0 ∧ a0 < 4294967296) (hc0 : (Lit.int .i64 c0).wf = true) (hc1 : (Lit.int .i64 c1).wf = true) (hc2 : (Lit.int .i64 c2).wf = true) (hc3 : (Lit.int .i64 c3).wf = true) (hc4 : (Lit.int .i64 c4).wf = true) : recs_EntryOf.f k (keyS 69 [a0]) (packS [c0, c1, c2, c3, c4]) = some (a0, c0, c1, c2, c3, c4, true) := by
  unfold recs_EntryOf.f recs_entries.f
  rw [Option.bind_some, nums_back k hk 69 1 5 [a0] [c0, c1, c2, c3, c4] (by decide) rfl rfl (by simp) (by simp) (by simp; omega) (wf_all (by simp [hc0, hc1, hc2, hc3, hc4])), Option.bind_some, if_pos rfl]
  rfl
theorem line_back (k : Nat) (hk : 31 < k) (a0 a1 c0 c1 c2 : Int) (ha0 : 0 ≤ a0 ∧ a0 < 4294967296) (ha1 : 0 ≤ a1 ∧ a1 < 4294967296) (hc0 : (Lit.int .i64 c0).wf = true) (hc1 : (Lit.int .i64 c1).wf = true) (hc2 : (Lit.int .i64 c2).wf = true) : recs_LineOf.f k (keyS 74 [a0, a1]) (packS [c0, c1, c2]) = some (c0, c1, 0, c2, true) := by
  unfold recs_LineOf.f recs_lines.f
  rw [Option.bind_some, nums_back k hk 74 2 3 [a0, a1] [c0, c1, c2] (by decide) rfl rfl (by simp) (by simp) (by simp; omega) (wf_all (by simp [hc0, hc1, hc2])), Option.bind_some, if_pos rfl]
  rfl
theorem RecsBack : exchequerlaw19_RecsBack.Pure := by
  intro x0 x1 x2 x3 x4 x5 g0 g1 g2 g3 g4 g5
  obtain ⟨-, -, w2, w3, w4, -, w6, w7, w8, w9, w10, w11⟩ := g0
  obtain ⟨-, d1, d2, d3, d4⟩ := g1
  obtain ⟨l0, l1, l2, l3⟩ := g2
  obtain ⟨-, e1, e2, e3, e4, e5⟩ := g3
  obtain ⟨n0, n1, -, n3⟩ := g4
  obtain ⟨k0, k1, k2, k3⟩ := g5
  have b0 := bounds_u32 k0
  have b1 := bounds_u32 k1
  have b2 := bounds_u32 k2
  have b3 := bounds_u32 k3
  refine ⟨40, ?_⟩
  have ha : exchequerlaw19_awake.f 40 = some true := by decide +kernel
  unfold exchequerlaw19_RecsBack.f
  rw [show wrap64 x5.f0 = x5.f0 by unfold wrap64; omega, show wrap64 x5.f1 = x5.f1 by unfold wrap64; omega, show wrap64 x5.f2 = x5.f2 by unfold wrap64; omega, show wrap64 x5.f3 = x5.f3 by unfold wrap64; omega]
  rw [node_tells 40 (by decide), Option.bind_some, node_back 40 (by decide) _ _ _ _ _ _ _ _ _ _ _ _ (by omega) (by omega) w2 w3 w4 w6 w7 w8 w9 w10 w11, Option.bind_some,
    doc_tells 40 (by decide), Option.bind_some, doc_back 40 (by decide) _ _ _ _ _ (by omega) d1 d2 d3 d4, Option.bind_some,
    docline_tells 40 (by decide), Option.bind_some, docline_back 40 (by decide) _ _ _ _ _ _ (by omega) (by omega) l0 l1 l2 l3, Option.bind_some,
    entry_tells 40 (by decide), Option.bind_some, entry_back 40 (by decide) _ _ _ _ _ _ (by omega) e1 e2 e3 e4 e5, Option.bind_some,
    line_tells 40 (by decide), Option.bind_some, line_back 40 (by decide) _ _ _ _ _ (by omega) (by omega) n0 n1 n3, Option.bind_some, ha]
  simp

end Go.Proofs.Ytkahpaipciooiab.Pure

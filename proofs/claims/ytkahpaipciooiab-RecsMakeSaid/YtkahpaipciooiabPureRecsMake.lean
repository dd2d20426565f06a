/- Each record's pair by the program is the document's: its numbers ahead in the key, the others in the value. -/
import Derived.Test.YtkahpaipciooiabPRecsMakey
import Derived.OpenShut
import Derived.Lib.Bytes
import Derived.Laws.BitsLemmas
namespace Go.Proofs.Ytkahpaipciooiab.Pure
open Go.RowKit Go.Proofs.Ytkahpaipciooiab.PRecsMake Go.Proofs.YtkahpaipciooiabW.PrintWords Go.Proofs.YtkahpaipciooiabW.PrintLast Go.Proofs.YtkahpaipciooiabW.PrintMore Go Go
/-! ### bytes, big-endian numbers -/
def IsBytes (l : List Int) : Prop := ∀ x ∈ l, 0 ≤ x ∧ x < 256
theorem IsBytes.nil : IsBytes [] := fun x h => by cases h
theorem IsBytes.append {l m : List Int} (h : IsBytes l) (g : IsBytes m) : IsBytes (l ++ m) := fun x hx => (List.mem_append.1 hx).elim (h x) (g x)
theorem IsBytes.left {l m : List Int} (h : IsBytes (l ++ m)) : IsBytes l := fun x hx => h x (List.mem_append.2 (.inl hx))
theorem IsBytes.one {b : Int} (h : 0 ≤ b ∧ b < 256) : IsBytes [b] := fun x hx => by rw [List.mem_singleton.1 hx]; exact h
theorem IsBytes.take {l : List Int} (h : IsBytes l) (n : Nat) : IsBytes (l.take n) := fun x hx => h x (List.mem_of_mem_take hx)
theorem IsBytes.drop {l : List Int} (h : IsBytes l) (n : Nat) : IsBytes (l.drop n) := fun x hx => h x (List.mem_of_mem_drop hx)
theorem IsBytes.of_wf {l : List Int} (h : ∀ x ∈ l, (Lit.int .u8 x).wf = true) : IsBytes l := fun x hx => by have := bounds_u8 (h x hx); omega
theorem IsBytes.replicate (n : Nat) : IsBytes (List.replicate n 0) := fun x hx => by rw [List.eq_of_mem_replicate hx]; decide
def be (n : Int) : Nat → List Int
  | 0 => []
  | s + 1 => be (n / 256) s ++ [n % 256]
theorem be_length : ∀ (s : Nat) (n : Int), (be n s).length = s
  | 0, _ => rfl
  | s + 1, n => by rw [be, List.length_append, be_length s]; rfl
theorem be_bytes : ∀ (s : Nat) (n : Int), IsBytes (be n s)
  | 0, _ => IsBytes.nil
  | s + 1, n => by rw [be]; exact (be_bytes s _).append (IsBytes.one (by omega))
theorem be_front : ∀ (s : Nat) (n : Int), be n (s + 1) = (n / 256 ^ s % 256) :: be n s
  | 0, n => by simp [be]
  | s + 1, n => by
    rw [be, be_front s (n / 256), be]
    rw [Int.ediv_ediv_of_nonneg (show (0 : Int) ≤ 256 by decide), show (256 : Int) * 256 ^ s = 256 ^ (s + 1) by rw [Int.pow_succ, Int.mul_comm]]
    rfl
def beval (l : List Int) : Int := l.foldl (fun a b => a * 256 + b) 0
theorem beval_nil : beval [] = 0 := rfl
theorem beval_snoc (l : List Int) (b : Int) : beval (l ++ [b]) = beval l * 256 + b := by simp [beval]
theorem beval_be : ∀ (s : Nat) (n : Int), beval (be n s) = n % 256 ^ s
  | 0, n => by simp [be, beval, Int.emod_one]
  | s + 1, n => by
    rw [be, beval_snoc, beval_be s]
    have h1 : (0 : Int) < 256 ^ s := Int.pow_pos (by decide)
    have h2 : n % (256 ^ (s + 1)) = n % 256 + 256 * (n / 256 % 256 ^ s) := by
      rw [show (256 : Int) ^ (s + 1) = 256 * 256 ^ s by rw [Int.pow_succ, Int.mul_comm], Int.emod_def n (256 * 256 ^ s), Int.emod_def (n / 256), ← Int.ediv_ediv_of_nonneg (show (0 : Int) ≤ 256 by decide), Int.mul_assoc]
      omega
    rw [h2]
    omega
theorem snoc_ind {P : List Int → Prop} (h0 : P []) (h1 : ∀ l b, P l → P (l ++ [b])) (l : List Int) : P l := by
  have h : ∀ m : List Int, P m.reverse := by
    intro m
    induction m with
    | nil => exact h0
    | cons b m ih => rw [List.reverse_cons]; exact h1 _ _ ih
  have := h l.reverse
  rwa [List.reverse_reverse] at this
theorem beval_bound (l : List Int) (h : IsBytes l) : 0 ≤ beval l ∧ beval l < 256 ^ l.length := by
  revert h
  refine snoc_ind (P := fun l => IsBytes l → 0 ≤ beval l ∧ beval l < 256 ^ l.length) ?_ ?_ l
  · intro _; simp [beval]
  · intro l' b ih h
    have ih := ih h.left
    have hb := h b (by simp)
    rw [beval_snoc, List.length_append, List.length_singleton, Int.pow_succ]
    generalize (256 : Int) ^ l'.length = p at ih
    omega
theorem be_beval (l : List Int) (h : IsBytes l) : be (beval l) l.length = l := by
  revert h
  refine snoc_ind (P := fun l => IsBytes l → be (beval l) l.length = l) ?_ ?_ l
  · intro _; rfl
  · intro l' b ih h
    have ih := ih h.left
    have hb := h b (by simp)
    rw [beval_snoc, List.length_append, List.length_singleton, be, show (beval l' * 256 + b) / 256 = beval l' by omega, show (beval l' * 256 + b) % 256 = b by omega, ih]
theorem beval_take_succ (l : List Int) (i : Nat) (h : i < l.length) : beval (l.take (i + 1)) = beval (l.take i) * 256 + rd l i := by
  rw [List.take_succ_eq_append_getElem h, beval_snoc]
  congr 1
  simp [rd, h]
theorem u8_inj {x y : Int} (hx : 0 ≤ x ∧ x < 256) (hy : 0 ≤ y ∧ y < 256) (h : UInt8.ofNat x.toNat = UInt8.ofNat y.toNat) : x = y := by
  have h2 := congrArg UInt8.toNat h
  simp only [UInt8.toNat_ofNat'] at h2
  omega
theorem strOfNums_inj : ∀ (l m : List Int), IsBytes l → IsBytes m → (l.map fun n => UInt8.ofNat n.toNat) = (m.map fun n => UInt8.ofNat n.toNat) → l = m
  | [], [], _, _, _ => rfl
  | [], _ :: _, _, _, h => by simp at h
  | _ :: _, [], _, _, h => by simp at h
  | x :: l, y :: m, hl, hm, h => by
    simp only [List.map_cons, List.cons.injEq] at h
    rw [u8_inj (hl x (by simp)) (hm y (by simp)) h.1, strOfNums_inj l m (fun z hz => hl z (by simp [hz])) (fun z hz => hm z (by simp [hz])) h.2]
theorem strOfNums_same (l m : List Int) (hl : IsBytes l) (hm : IsBytes m) : ((strOfNums l).toList == (strOfNums m).toList) = decide (l = m) := by
  rw [Lib.strOfNums_toList, Lib.strOfNums_toList]
  by_cases h : l = m
  · subst h; simp
  · rw [decide_eq_false h]
    refine beq_false_of_ne (fun h2 => h (strOfNums_inj l m hl hm h2))
theorem u64_wrap (x : Int) : IntKind.u64.wrap x = x % 18446744073709551616 := by simp [IntKind.wrap, IntKind.bits, IntKind.signed]
theorem i64_wrap (x : Int) : IntKind.i64.wrap x = wrap64 x := by
  unfold wrap64
  simp [IntKind.wrap, IntKind.bits, IntKind.signed]
  split <;> omega
theorem shr_u64_byte (n : Int) (i : Nat) (hi : i < 8) : shr .u64 (IntKind.u64.wrap n) (8 * i) % 256 = n / 256 ^ i % 256 := by
  rw [u64_wrap]
  unfold shr
  rcases (by omega : i = 0 ∨ i = 1 ∨ i = 2 ∨ i = 3 ∨ i = 4 ∨ i = 5 ∨ i = 6 ∨ i = 7) with rfl | rfl | rfl | rfl | rfl | rfl | rfl | rfl <;> simp [IntKind.bits] <;> omega
theorem shr_i64_byte (n : Int) (i : Nat) (hi : i < 8) : shr .i64 n (8 * i) % 256 = n / 256 ^ i % 256 := by
  unfold shr
  rcases (by omega : i = 0 ∨ i = 1 ∨ i = 2 ∨ i = 3 ∨ i = 4 ∨ i = 5 ∨ i = 6 ∨ i = 7) with rfl | rfl | rfl | rfl | rfl | rfl | rfl | rfl <;> simp [IntKind.bits]
theorem or_byte_nat (x b : Int) (hb : 0 ≤ b ∧ b < 256) : (BitVec.ofInt 64 (x * 256) ||| BitVec.ofInt 64 b) = BitVec.ofInt 64 (x * 256 + b) := by
  apply BitVec.eq_of_toNat_eq
  rw [BitVec.toNat_or, BitVec.toNat_ofInt, BitVec.toNat_ofInt, BitVec.toNat_ofInt]
  have e1 : (x * 256 % ((2 ^ 64 : Nat) : Int)).toNat = 2 ^ 8 * (x % 72057594037927936).toNat := by omega
  have e2 : (b % ((2 ^ 64 : Nat) : Int)).toNat = b.toNat := by omega
  rw [e1, e2, ← Nat.two_pow_add_eq_or_of_lt (show b.toNat < 2 ^ 8 by omega)]
  omega
theorem or_byte_u64 (x b : Int) (hb : 0 ≤ b ∧ b < 256) : Go.bits .or .u64 (IntKind.u64.wrap (x * 256)) (IntKind.u64.wrap b) = IntKind.u64.wrap (x * 256 + b) := by
  have e : ∀ y : Int, BitVec.ofInt 64 (IntKind.u64.wrap y) = BitVec.ofInt 64 y := by
    intro y
    apply BitVec.eq_of_toNat_eq
    rw [u64_wrap, BitVec.toNat_ofInt, BitVec.toNat_ofInt]
    omega
  show IntKind.u64.wrap ((BitVec.ofInt 64 (IntKind.u64.wrap (x * 256)) ||| BitVec.ofInt 64 (IntKind.u64.wrap b)).toNat : Int) = _
  rw [e, e, or_byte_nat x b hb, u64_wrap, u64_wrap, BitVec.toNat_ofInt]
  omega
theorem or_byte_i64 (x b : Int) (hb : 0 ≤ b ∧ b < 256) : Go.bits .or .i64 (wrap64 (x * 256)) (wrap64 b) = wrap64 (x * 256 + b) := by
  have e : ∀ y : Int, BitVec.ofInt 64 (wrap64 y) = BitVec.ofInt 64 y := by
    intro y
    apply BitVec.eq_of_toNat_eq
    unfold wrap64
    rw [BitVec.toNat_ofInt, BitVec.toNat_ofInt]
    omega
  show IntKind.i64.wrap ((BitVec.ofInt 64 (wrap64 (x * 256)) ||| BitVec.ofInt 64 (wrap64 b)).toNat : Int) = _
  rw [e, e, or_byte_nat x b hb, i64_wrap, BitVec.toNat_ofInt]
  unfold wrap64
  omega
theorem rd_getElem (l : List Int) (i : Nat) (h : i < l.length) : rd l i = l[i] := by simp [rd, h]
/-! ### what num's functions come to -/
def sizedS (s : Int) : Bool := s == 1 || s == 2 || s == 4 || s == 8
theorem sizedS_iff (s : Int) : sizedS s = true ↔ s = 1 ∨ s = 2 ∨ s = 4 ∨ s = 8 := by
  unfold sizedS
  simp [or_assoc]
def rightS (n s : Int) : Bool := s == 8 || sizedS s && decide (0 ≤ n) && decide (n < 256 ^ s.toNat)
theorem rightS_sized {n s : Int} (h : rightS n s = true) : s = 1 ∨ s = 2 ∨ s = 4 ∨ s = 8 := by
  unfold rightS at h
  simp only [Bool.or_eq_true, Bool.and_eq_true, beq_iff_eq, decide_eq_true_eq] at h
  rcases h with h | h
  · exact .inr (.inr (.inr h))
  · exact (sizedS_iff s).1 h.1.1
theorem rightS_4 (n : Int) : rightS n 4 = (decide (0 ≤ n) && decide (n < 4294967296)) := by simp [rightS, sizedS]
theorem rightS_2 (n : Int) : rightS n 2 = (decide (0 ≤ n) && decide (n < 65536)) := by simp [rightS, sizedS]
theorem rightS_1 (n : Int) : rightS n 1 = (decide (0 ≤ n) && decide (n < 256)) := by simp [rightS, sizedS]
theorem rightS_8 (n : Int) : rightS n 8 = true := by simp [rightS]
theorem rightS_range {n s : Int} (h : rightS n s = true) (h8 : s ≠ 8) : 0 ≤ n ∧ n < 256 ^ s.toNat := by
  unfold rightS at h
  simp only [Bool.or_eq_true, Bool.and_eq_true, beq_iff_eq, decide_eq_true_eq] at h
  rcases h with h | h
  · exact absurd h h8
  · exact ⟨h.1.2, h.2⟩
def putS (l : List Int) (n s : Int) : List Int := if rightS n s = true then l ++ be n s.toNat else l
theorem putS_bytes {l : List Int} (h : IsBytes l) (n s : Int) : IsBytes (putS l n s) := by
  unfold putS
  split
  · exact h.append (be_bytes _ _)
  · exact h
theorem putS_length (l : List Int) (n s : Int) : l.length ≤ (putS l n s).length ∧ (putS l n s).length ≤ l.length + 8 := by
  unfold putS
  split
  · rename_i h
    rw [List.length_append, be_length]
    have := rightS_sized h
    omega
  · omega
theorem putS_8 (l : List Int) (n : Int) : putS l n 8 = l ++ be n 8 := by unfold putS; rw [if_pos (rightS_8 n)]; rfl
def getS (l : List Int) (at_ s : Int) : Int × Int :=
  if sizedS s = true ∧ 0 ≤ at_ then (if at_ + s ≤ l.length then (wrap64 (beval ((l.drop at_.toNat).take s.toNat)), 0) else (0, 3)) else (0, 1)
theorem num_sized_tells (s : Int) : num_sized.f s = some (sizedS s) := by
  unfold num_sized.f sizedS
  by_cases h1 : s = 1
  · rw [if_pos h1]; subst h1; rfl
  · rw [if_neg h1]
    by_cases h2 : s = 2
    · rw [if_pos h2]; subst h2; rfl
    · rw [if_neg h2]
      by_cases h4 : s = 4
      · rw [if_pos h4]; subst h4; rfl
      · rw [if_neg h4]
        by_cases h8 : s = 8
        · rw [if_pos h8]; subst h8; rfl
        · rw [if_neg h8, beq_false_of_ne h1, beq_false_of_ne h2, beq_false_of_ne h4, beq_false_of_ne h8]; rfl
theorem num_right_tells (n s : Int) : num_Right.f n s = some (rightS n s) := by
  unfold num_Right.f rightS
  by_cases h8 : s = 8
  · rw [if_pos h8]; subst h8; rfl
  · rw [if_neg h8, num_sized_tells]
    simp only [Option.bind_some]
    rw [beq_false_of_ne h8, Bool.false_or]
    by_cases hs : sizedS s = true
    · rw [if_pos hs, hs, Bool.true_and]
      by_cases hn : n ≥ 0
      · rw [if_pos hn, decide_eq_true (show 0 ≤ n from hn), Bool.true_and]
        have h3 : s = 1 ∨ s = 2 ∨ s = 4 := by rcases (sizedS_iff s).1 hs with h | h | h | h <;> simp_all
        have hw : wrap64 (8 * s) = 8 * s := by unfold wrap64; omega
        rw [hw, if_pos (by omega)]
        congr 1
        rw [Bool.eq_iff_iff, beq_iff_eq, decide_eq_true_eq]
        unfold shr
        rcases h3 with rfl | rfl | rfl <;> simp [IntKind.bits] <;> omega
      · rw [if_neg hn, decide_eq_false (show ¬ 0 ≤ n from hn)]; rfl
    · rw [if_neg hs, Bool.eq_false_iff.mpr hs]; rfl
theorem num_put_l0 : ∀ (i k : Nat) (n : Int) (l : List Int), i ≤ 8 → i < k → l.length + i < 140737488355328 → num_Put.l0 k n l (8 * i - 8) = some (l ++ be n i)
  | 0, k, n, l, _, hk, _ => by
    obtain ⟨k, rfl⟩ : ∃ m, k = m + 1 := ⟨k - 1, by omega⟩
    simp only [num_Put.l0]
    rw [if_neg (by omega)]
    simp [be]
  | i + 1, k, n, l, hi, hk, hl => by
    obtain ⟨k, rfl⟩ : ∃ m, k = m + 1 := ⟨k - 1, by omega⟩
    simp only [num_Put.l0]
    rw [if_pos (by omega), if_pos (by omega), if_pos (by omega)]
    have e1 : (8 * ((i + 1 : Nat) : Int) - 8) = 8 * (i : Int) := by omega
    rw [e1, shr_u64_byte n i (by omega), show wrap64 (8 * (i : Int) - 8) = 8 * (i : Int) - 8 by unfold wrap64; omega]
    rw [num_put_l0 i k n _ (by omega) (by omega) (by rw [List.length_append, List.length_singleton]; omega), be_front, List.append_assoc]
    rfl
theorem num_put_tells (k : Nat) (hk : 9 < k) (l : List Int) (n s : Int) (hl : l.length + 8 < 140737488355328) : num_Put.f k l n s = some (putS l n s) := by
  unfold num_Put.f putS
  rw [if_pos (by omega), if_pos (by omega), if_pos (by omega), num_right_tells]
  simp only [Option.bind_some, Int.toNat_natCast]
  have e : l.take (List.replicate l.length (0 : Int)).length ++ (List.replicate l.length (0 : Int)).drop l.length = l := by simp
  rw [e]
  by_cases h : rightS n s = true
  · rw [if_pos h, if_pos h]
    have hs := rightS_sized h
    have e2 : wrap64 (8 * wrap64 (s - 1)) = 8 * (s.toNat : Int) - 8 := by unfold wrap64; omega
    rw [e2]
    exact num_put_l0 s.toNat k n l (by omega) (by omega) (by omega)
  · rw [if_neg h, if_neg h]
theorem ref_sized_tells (s : Int) : exchequerref01_sized.f s = some (sizedS s) := by
  unfold exchequerref01_sized.f sizedS
  by_cases h1 : s = 1
  · rw [if_pos h1]; subst h1; rfl
  · rw [if_neg h1]
    by_cases h2 : s = 2
    · rw [if_pos h2]; subst h2; rfl
    · rw [if_neg h2]
      by_cases h4 : s = 4
      · rw [if_pos h4]; subst h4; rfl
      · rw [if_neg h4, beq_false_of_ne h1, beq_false_of_ne h2, beq_false_of_ne h4]; rfl
theorem ref_right_tells (k : Nat) (hk : 5 < k) (n s : Int) : exchequerref01_Right.f k n s = some (rightS n s) := by
  obtain ⟨k, rfl⟩ : ∃ m, k = m + 6 := ⟨k - 6, by omega⟩
  unfold exchequerref01_Right.f rightS
  by_cases h8 : s = 8
  · rw [if_pos h8]; subst h8; rfl
  · rw [if_neg h8, ref_sized_tells]
    simp only [Option.bind_some]
    rw [beq_false_of_ne h8, Bool.false_or]
    by_cases hs : sizedS s = true
    · rw [if_pos hs, hs, Bool.true_and]
      by_cases hn : n ≥ 0
      · rw [if_pos hn, decide_eq_true (show 0 ≤ n from hn), Bool.true_and]
        have h3 : s = 1 ∨ s = 2 ∨ s = 4 := by rcases (sizedS_iff s).1 hs with h | h | h | h <;> simp_all
        rcases h3 with rfl | rfl | rfl <;> simp [exchequerref01_pow.f, exchequerref01_pow.l0, wrap64]
      · rw [if_neg hn, decide_eq_false (show ¬ 0 ≤ n from hn)]; rfl
    · rw [if_neg hs, Bool.eq_false_iff.mpr hs]; rfl
theorem ref_put_l0 : ∀ (i k : Nat) (n : Int) (l : List Int), i ≤ 8 → i < k → l.length + i < 140737488355328 → exchequerref01_Put.l0 k n l ((i : Int) - 1) = some (l ++ be n i)
  | 0, k, n, l, _, hk, _ => by
    obtain ⟨k, rfl⟩ : ∃ m, k = m + 1 := ⟨k - 1, by omega⟩
    simp only [exchequerref01_Put.l0]
    rw [if_neg (by omega)]
    simp [be]
  | i + 1, k, n, l, hi, hk, hl => by
    obtain ⟨k, rfl⟩ : ∃ m, k = m + 1 := ⟨k - 1, by omega⟩
    simp only [exchequerref01_Put.l0]
    have e1 : (((i + 1 : Nat) : Int) - 1) = (i : Int) := by omega
    have e2 : wrap64 (8 * (i : Int)) = 8 * (i : Int) := by unfold wrap64; omega
    rw [e1, e2, if_pos (by omega), if_pos (by omega), if_pos (by omega)]
    rw [shr_i64_byte n i (by omega), show wrap64 ((i : Int) - 1) = (i : Int) - 1 by unfold wrap64; omega]
    rw [ref_put_l0 i k n _ (by omega) (by omega) (by rw [List.length_append, List.length_singleton]; omega), be_front, List.append_assoc]
    rfl
theorem ref_put_tells (k : Nat) (hk : 9 < k) (l : List Int) (n s : Int) (hl : l.length + 8 < 140737488355328) : exchequerref01_Put.f k l n s = some (putS l n s) := by
  unfold exchequerref01_Put.f putS
  rw [if_pos (by simp only [List.length_nil]; omega), ref_right_tells k (by omega)]
  simp only [Option.bind_some, List.nil_append]
  by_cases h : rightS n s = true
  · rw [if_pos h, if_pos h]
    have hs := rightS_sized h
    have e2 : wrap64 (s - 1) = (s.toNat : Int) - 1 := by unfold wrap64; omega
    rw [e2]
    exact ref_put_l0 s.toNat k n l (by omega) (by omega) (by omega)
  · rw [if_neg h, if_neg h]
/-! ### what field's functions come to -/
def packB (l : List Int) : List Int := l.flatMap fun n => be n 8
def packS (l : List Int) : List Int := packB (l.take 15)
theorem packB_cons (n : Int) (l : List Int) : packB (n :: l) = be n 8 ++ packB l := rfl
theorem packB_append (l m : List Int) : packB (l ++ m) = packB l ++ packB m := by simp [packB]
theorem packB_length : ∀ l : List Int, (packB l).length = 8 * l.length
  | [] => rfl
  | n :: l => by rw [packB_cons, List.length_append, be_length, packB_length l, List.length_cons]; omega
theorem packB_bytes : ∀ l : List Int, IsBytes (packB l)
  | [] => IsBytes.nil
  | n :: l => by rw [packB_cons]; exact (be_bytes _ _).append (packB_bytes l)
theorem packS_length (l : List Int) : (packS l).length = 8 * min 15 l.length := by rw [packS, packB_length, List.length_take]
theorem packS_bytes (l : List Int) : IsBytes (packS l) := packB_bytes _
def valAt (b : List Int) (i : Nat) : Int := wrap64 (beval ((b.drop (8 * i)).take 8))
def unpackS (b : List Int) (many : Int) : List Int × Int :=
  if many < 0 ∨ many > 15 then ([], 1) else if (b.length : Int) ≠ 8 * many then ([], 4) else ((List.range many.toNat).map (valAt b), 0)
theorem getS_valAt (b : List Int) (i : Nat) (h : 8 * i + 8 ≤ b.length) : getS b (8 * (i : Int)) 8 = (valAt b i, 0) := by
  unfold getS valAt
  rw [if_pos ⟨rfl, by omega⟩, if_pos (by omega), show (8 * (i : Int)).toNat = 8 * i by omega]
  rfl
theorem valAt_packB : ∀ (l : List Int) (i : Nat) (h : i < l.length), (∀ x ∈ l, (Lit.int .i64 x).wf = true) → valAt (packB l) i = l[i]
  | n :: l, 0, _, hw => by
    have bn := bounds_i64 (hw n (by simp))
    unfold valAt
    rw [packB_cons, List.drop_zero, List.take_append_of_le_length (by rw [be_length]; omega), List.take_of_length_le (by rw [be_length]; omega), beval_be]
    show wrap64 (n % 256 ^ 8) = n
    rw [show (256 : Int) ^ 8 = 18446744073709551616 by decide]
    unfold wrap64
    omega
  | n :: l, i + 1, h, hw => by
    have ih := valAt_packB l i (by simpa using h) (fun x hx => hw x (by simp [hx]))
    unfold valAt at ih ⊢
    rw [packB_cons, show 8 * (i + 1) = (be n 8).length + 8 * i by rw [be_length]; omega, List.drop_append, List.drop_eq_nil_of_le (by omega), List.nil_append, Nat.add_sub_cancel_left, ih]
    rfl
theorem unpackS_packS (l : List Int) (hl : l.length ≤ 15) (hw : ∀ x ∈ l, (Lit.int .i64 x).wf = true) : unpackS (packS l) l.length = (l, 0) := by
  unfold unpackS packS
  rw [List.take_of_length_le hl, if_neg (by omega), if_neg (by rw [packB_length]; omega), Int.toNat_natCast]
  congr 1
  apply List.ext_getElem
  · simp
  · intro i h1 h2
    rw [List.getElem_map, List.getElem_range]
    exact valAt_packB l i h2 hw
theorem field_pack_l0 (ys : List Int) (hy : ys.length ≤ 15) : ∀ (d k i : Nat) (acc : List Int), i + d = ys.length → d + 12 < k → acc.length ≤ 8 * i → field_Pack.l0 k acc ys ys.length i = some (acc ++ packB (ys.drop i))
  | 0, k, i, acc, hd, hk, _ => by
    obtain ⟨k, rfl⟩ : ∃ m, k = m + 1 := ⟨k - 1, by omega⟩
    simp only [field_Pack.l0]
    rw [if_neg (by omega), List.drop_eq_nil_of_le (by omega)]
    simp [packB]
  | d + 1, k, i, acc, hd, hk, ha => by
    obtain ⟨k, rfl⟩ : ∃ m, k = m + 1 := ⟨k - 1, by omega⟩
    simp only [field_Pack.l0]
    rw [if_pos (by omega), if_pos (by omega), if_pos (by omega), num_put_tells k (by omega) _ _ _ (by omega), putS_8]
    simp only [Option.bind_some]
    rw [show wrap64 ((i : Int) + 1) = ((i + 1 : Nat) : Int) by unfold wrap64; omega, field_pack_l0 ys hy d k (i + 1) _ (by omega) (by omega) (by rw [List.length_append, be_length]; omega)]
    rw [List.drop_eq_getElem_cons (show i < ys.length by omega), packB_cons, rd_getElem ys i (by omega), List.append_assoc]
theorem field_pack_tells (k : Nat) (hk : 30 < k) (l : List Int) : field_Pack.f k l = some (packS l) := by
  have hm : mn (l.length : Int) 15 = ((min 15 l.length : Nat) : Int) := by unfold mn; split <;> omega
  unfold field_Pack.f packS
  rw [hm, if_pos (by omega), if_pos (by omega), Int.toNat_natCast]
  have ht : l.take (min 15 l.length) = l.take 15 := by rw [List.take_eq_take_iff]; omega
  simp only [Option.bind_some]
  rw [ht]
  have := field_pack_l0 (l.take 15) (by rw [List.length_take]; omega) (l.take 15).length k 0 [] (by omega) (by rw [List.length_take]; omega) (by simp)
  simpa using this
theorem ref17_pack_l0 (l : List Int) (hl : l.length ≤ 140737488355328) : ∀ (d k i : Nat) (acc : List Int), i + d = min 15 l.length → d + 12 < k → acc.length ≤ 8 * i → exchequerref17_Pack.l0 k l acc i = some (acc ++ packB ((l.take 15).drop i))
  | 0, k, i, acc, hd, hk, _ => by
    obtain ⟨k, rfl⟩ : ∃ m, k = m + 1 := ⟨k - 1, by omega⟩
    simp only [exchequerref17_Pack.l0]
    rw [List.drop_eq_nil_of_le (by rw [List.length_take]; omega)]
    by_cases h : (i : Int) < l.length
    · rw [if_pos h, if_neg (by omega)]; simp [packB]
    · rw [if_neg h]; simp [packB]
  | d + 1, k, i, acc, hd, hk, ha => by
    obtain ⟨k, rfl⟩ : ∃ m, k = m + 1 := ⟨k - 1, by omega⟩
    simp only [exchequerref17_Pack.l0]
    rw [if_pos (by omega), if_pos (by omega), if_pos (by omega), ref_put_tells k (by omega) _ _ _ (by omega), putS_8]
    simp only [Option.bind_some]
    rw [show wrap64 ((i : Int) + 1) = ((i + 1 : Nat) : Int) by unfold wrap64; omega, ref17_pack_l0 l hl d k (i + 1) _ (by omega) (by omega) (by rw [List.length_append, be_length]; omega)]
    rw [List.drop_eq_getElem_cons (show i < (l.take 15).length by rw [List.length_take]; omega), packB_cons, rd_getElem l i (by omega), List.append_assoc, List.getElem_take]
theorem ref17_pack_tells (k : Nat) (hk : 30 < k) (l : List Int) (hl : l.length ≤ 140737488355328) : exchequerref17_Pack.f k l = some (packS l) := by
  unfold exchequerref17_Pack.f packS
  have := ref17_pack_l0 l hl (min 15 l.length) k 0 [] (by omega) (by omega) (by simp)
  simpa using this
/-! ### keys -/
def clampS (n : Int) : Int := mn (mx n 0) 4294967295
theorem clampS_range (n : Int) : 0 ≤ clampS n ∧ clampS n < 4294967296 := by unfold clampS mn mx; split <;> split <;> omega
theorem clampS_id {n : Int} (h : 0 ≤ n ∧ n < 4294967296) : clampS n = n := by unfold clampS mn mx; split <;> split <;> omega
theorem putS_4 (l : List Int) (n : Int) (h : 0 ≤ n ∧ n < 4294967296) : putS l n 4 = l ++ be n 4 := by
  unfold putS; rw [rightS_4, if_pos (by simp; omega)]; rfl
def wordsS (l : List Int) : List Int := l.flatMap fun n => be (clampS n) 4
theorem wordsS_cons (n : Int) (l : List Int) : wordsS (n :: l) = be (clampS n) 4 ++ wordsS l := rfl
theorem wordsS_length : ∀ l : List Int, (wordsS l).length = 4 * l.length
  | [] => rfl
  | n :: l => by rw [wordsS_cons, List.length_append, be_length, wordsS_length l, List.length_cons]; omega
theorem wordsS_bytes : ∀ l : List Int, IsBytes (wordsS l)
  | [] => IsBytes.nil
  | n :: l => by rw [wordsS_cons]; exact (be_bytes _ _).append (wordsS_bytes l)
def keyS (tag : Int) (l : List Int) : List Int := tag :: wordsS (l.take 7)
theorem keyS_bytes {tag : Int} (ht : 0 ≤ tag ∧ tag < 256) (l : List Int) : IsBytes (keyS tag l) := (IsBytes.one ht).append (wordsS_bytes _)
theorem keyS_length (tag : Int) (l : List Int) : (keyS tag l).length = 1 + 4 * min 7 l.length := by unfold keyS; rw [List.length_cons, wordsS_length, List.length_take]; omega
theorem rd_at (l : List Int) (i : Nat) (h : i < l.length) : rd l (i : Int) = l[i] := by unfold rd; rw [Int.toNat_natCast, List.getD_eq_getElem?_getD, List.getElem?_eq_getElem h]; rfl
def numsS : Nat → List Int → List Int
  | 0, _ => []
  | m + 1, l => beval (l.take 4) :: numsS m (l.drop 4)
theorem numsS_length : ∀ (m : Nat) (l : List Int), (numsS m l).length = m
  | 0, _ => rfl
  | m + 1, l => by rw [numsS, List.length_cons, numsS_length m]
theorem numsS_words : ∀ (l : List Int), numsS l.length (wordsS l) = l.map clampS
  | [] => rfl
  | n :: l => by
    have h := clampS_range n
    rw [wordsS_cons, List.length_cons, numsS, List.take_append_of_le_length (by rw [be_length]; omega), List.take_of_length_le (by rw [be_length]; omega), List.drop_append_of_le_length (by rw [be_length]; omega), List.drop_of_length_le (by rw [be_length]; omega), List.nil_append, numsS_words l, beval_be, List.map_cons]
    congr 1
    omega
def splitS (l : List Int) : Int × List Int × Bool := if 1 ≤ l.length ∧ l.length ≤ 29 ∧ l.length % 4 = 1 then (rd l 0, numsS ((l.length - 1) / 4) (l.drop 1), true) else (0, [], false)
theorem splitS_numbers (l : List Int) : (splitS l).2.1.length ≤ 7 := by
  unfold splitS
  split
  · show (numsS _ _).length ≤ 7; rw [numsS_length]; omega
  · exact Nat.zero_le _
theorem splitS_keyS (tag : Int) (l : List Int) (h : l.length ≤ 7) : splitS (keyS tag l) = (tag, l.map clampS, true) := by
  have hl := keyS_length tag l
  unfold splitS
  rw [if_pos (by omega), hl]
  have e : keyS tag l = tag :: wordsS l := by unfold keyS; rw [List.take_of_length_le h]
  rw [e, List.drop_succ_cons, List.drop_zero, show (1 + 4 * min 7 l.length - 1) / 4 = l.length by omega, numsS_words]
  rfl
theorem get4 (l : List Int) (hl : IsBytes l) (i : Nat) (h : i + 4 ≤ l.length) : getS l (i : Int) 4 = (beval ((l.drop i).take 4), 0) := by
  have hb := beval_bound _ ((hl.drop i).take 4)
  rw [List.length_take, List.length_drop, show min 4 (l.length - i) = 4 by omega] at hb
  unfold getS
  rw [if_pos ⟨by decide, by omega⟩, if_pos (by omega), Int.toNat_natCast, show (4 : Int).toNat = 4 from rfl, show wrap64 (beval ((l.drop i).take 4)) = beval ((l.drop i).take 4) by unfold wrap64; omega]
theorem keys_key_l0 (ys : List Int) (hy : ys.length ≤ 7) : ∀ (d k i : Nat) (b : List Int), i + d = ys.length → d + 12 < k → b.length + 4 * d ≤ 1000 → keys_Key.l0 k b ys (ys.length : Int) (i : Int) = some (b ++ wordsS (ys.drop i))
  | d, 0, _, _, _, h, _ => by omega
  | 0, k + 1, i, b, hi, _, _ => by
    rw [keys_Key.l0, if_neg (by omega), List.drop_of_length_le (by omega)]
    simp [wordsS]
  | d + 1, k + 1, i, b, hi, hk, hb => by
    have hr := clampS_range (rd ys i)
    rw [keys_Key.l0, if_pos (by omega), if_pos (by omega), if_pos (by omega), num_put_tells k (by omega) _ _ _ (by omega), Option.bind_some, show mn (mx (rd ys i) 0) 4294967295 = clampS (rd ys i) from rfl, putS_4 _ _ hr, show wrap64 ((i : Int) + 1) = ((i + 1 : Nat) : Int) by unfold wrap64; omega,
      keys_key_l0 ys hy d k (i + 1) _ (by omega) (by omega) (by rw [List.length_append, be_length]; omega), List.drop_eq_getElem_cons (show i < ys.length by omega), wordsS_cons, rd_at ys i (by omega), List.append_assoc]
theorem keys_key_tells (k : Nat) (hk : 30 < k) (tag : Int) (l : List Int) : keys_Key.f k tag l = some (keyS tag l) := by
  have hm : mn (l.length : Int) 7 = ((min 7 l.length : Nat) : Int) := by unfold mn; split <;> omega
  unfold keys_Key.f
  rw [hm, if_pos (by omega), if_pos (by omega), Option.bind_some, Int.toNat_natCast, show l.take (min 7 l.length) = l.take 7 by rw [← List.take_take, List.take_of_length_le (Nat.le_refl _)]]
  have := keys_key_l0 (l.take 7) (List.length_take_le _ _) (l.take 7).length k 0 [tag] (by omega) (by have := List.length_take_le 7 l; omega) (by have := List.length_take_le 7 l; simp only [List.length_singleton]; omega)
  rw [show ((0 : Nat) : Int) = 0 from rfl, List.drop_zero] at this
  rw [this]; rfl
theorem ref_key_l0 (l : List Int) (hy : l.length ≤ 4000) : ∀ (d k i : Nat) (b : List Int), i + d = min 7 l.length → d + 12 < k → b.length + 4 * d ≤ 1000 → exchequerref18_Key.l0 k l b (i : Int) = some (b ++ wordsS ((l.take 7).drop i))
  | d, 0, _, _, _, h, _ => by omega
  | 0, k + 1, i, b, hi, _, _ => by
    rw [exchequerref18_Key.l0, List.drop_of_length_le (by rw [List.length_take]; omega)]
    by_cases h : i < l.length
    · rw [if_pos (by omega), if_neg (by omega)]; simp [wordsS]
    · rw [if_neg (by omega)]; simp [wordsS]
  | d + 1, k + 1, i, b, hi, hk, hb => by
    have hr := clampS_range (rd l i)
    have hlt : i < (l.take 7).length := by rw [List.length_take]; omega
    rw [exchequerref18_Key.l0, if_pos (by omega), if_pos (by omega), if_pos (by omega), ref_put_tells k (by omega) _ _ _ (by omega), Option.bind_some, show mn (mx (rd l i) 0) 4294967295 = clampS (rd l i) from rfl, putS_4 _ _ hr, show wrap64 ((i : Int) + 1) = ((i + 1 : Nat) : Int) by unfold wrap64; omega,
      ref_key_l0 l hy d k (i + 1) _ (by omega) (by omega) (by rw [List.length_append, be_length]; omega), List.drop_eq_getElem_cons hlt, wordsS_cons, rd_at l i (by omega), List.append_assoc, List.getElem_take]
theorem ref_key_tells (k : Nat) (hk : 30 < k) (tag : Int) (l : List Int) (hl : l.length ≤ 4000) : exchequerref18_Key.f k tag l = some (keyS tag l) := by
  have := ref_key_l0 l hl (min 7 l.length) k 0 [tag] (by omega) (by omega) (by simp only [List.length_singleton]; omega)
  rw [show ((0 : Nat) : Int) = 0 from rfl, List.drop_zero] at this
  exact this
/-! ### records as pairs -/
theorem table_pair_tells (k : Nat) (hk : 30 < k) (tag n v : Int) (l : List Int) (h0 : 0 ≤ n) (h1 : n ≤ l.length) : recs_table_pair.f k tag n v l = some (keyS tag (l.take n.toNat), packS (l.drop n.toNat)) := by
  unfold recs_table_pair.f
  rw [if_pos h0, if_pos h1, keys_key_tells k hk, Option.bind_some, field_pack_tells k hk, Option.bind_some]
def bitS (b : Bool) : Int := if b = true then 1 else 0
theorem bit_tells (b : Bool) : recs_bit.f b = some (bitS b) := by unfold recs_bit.f bitS; cases b <;> rfl
theorem node_tells (k : Nat) (hk : 30 < k) (a b c d e : Int) (f : Bool) (g h i j l m : Int) : recs_Node.f k a b c d e f g h i j l m = some (keyS 78 [a, b], packS [c, d, e, bitS f, g, h, i, j, l, m]) := by
  unfold recs_Node.f recs_nodes.f
  rw [Option.bind_some, bit_tells, Option.bind_some, table_pair_tells k hk _ _ _ _ (by decide) (by simp), Option.bind_some]
  rfl
theorem doc_tells (k : Nat) (hk : 30 < k) (a b c d e : Int) : recs_Doc.f k a b c d e = some (keyS 68 [a], packS [b, c, d, e]) := by
  unfold recs_Doc.f recs_documents.f
  rw [Option.bind_some, table_pair_tells k hk _ _ _ _ (by decide) (by simp), Option.bind_some]
  rfl
theorem docline_tells (k : Nat) (hk : 30 < k) (x y a b c d : Int) : recs_DocLine.f k x y a b c d = some (keyS 76 [x, y], packS [a, b, c, d]) := by
  unfold recs_DocLine.f recs_docLines.f
  rw [Option.bind_some, table_pair_tells k hk _ _ _ _ (by decide) (by simp), Option.bind_some]
  rfl
theorem entry_tells (k : Nat) (hk : 30 < k) (a b c d e f : Int) : recs_Entry.f k a b c d e f = some (keyS 69 [a], packS [b, c, d, e, f]) := by
  unfold recs_Entry.f recs_entries.f
  rw [Option.bind_some, table_pair_tells k hk _ _ _ _ (by decide) (by simp), Option.bind_some]
  rfl
theorem line_tells (k : Nat) (hk : 30 < k) (x y a b c d : Int) : recs_Line.f k x y a b c d = some (keyS 74 [x, y], packS [a, b, d]) := by
  unfold recs_Line.f recs_lines.f
  rw [Option.bind_some, table_pair_tells k hk _ _ _ _ (by decide) (by simp), Option.bind_some]
  rfl
theorem ref_pair_tells (k : Nat) (hk : 30 < k) (tag : Int) (l m : List Int) (hl : l.length ≤ 100) (hm : m.length ≤ 100) : exchequerref19_pair.f k tag l m = some (keyS tag l, packS m) := by
  unfold exchequerref19_pair.f
  rw [ref_key_tells k hk tag l (by omega), Option.bind_some, ref17_pack_tells k hk m (by omega), Option.bind_some]
theorem ref_node_tells (k : Nat) (hk : 30 < k) (a b c d e : Int) (f : Bool) (g h i j l m : Int) : exchequerref19_Node.f k a b c d e f g h i j l m = some (keyS 78 [a, b], packS [c, d, e, bitS f, g, h, i, j, l, m]) := by
  unfold exchequerref19_Node.f bitS
  cases f
  · rw [if_neg (by decide), ref_pair_tells k hk _ _ _ (by simp) (by simp), Option.bind_some]; rfl
  · rw [if_pos rfl, ref_pair_tells k hk _ _ _ (by simp) (by simp), Option.bind_some]; rfl
theorem ref_doc_tells (k : Nat) (hk : 30 < k) (a b c d e : Int) : exchequerref19_Doc.f k a b c d e = some (keyS 68 [a], packS [b, c, d, e]) := by
  unfold exchequerref19_Doc.f
  rw [ref_pair_tells k hk _ _ _ (by simp) (by simp), Option.bind_some]
theorem ref_docline_tells (k : Nat) (hk : 30 < k) (x y a b c d : Int) : exchequerref19_DocLine.f k x y a b c d = some (keyS 76 [x, y], packS [a, b, c, d]) := by
  unfold exchequerref19_DocLine.f
  rw [ref_pair_tells k hk _ _ _ (by simp) (by simp), Option.bind_some]
theorem ref_entry_tells (k : Nat) (hk : 30 < k) (a b c d e f : Int) : exchequerref19_Entry.f k a b c d e f = some (keyS 69 [a], packS [b, c, d, e, f]) := by
  unfold exchequerref19_Entry.f
  rw [ref_pair_tells k hk _ _ _ (by simp) (by simp), Option.bind_some]
theorem ref_line_tells (k : Nat) (hk : 30 < k) (x y a b c d : Int) : exchequerref19_Line.f k x y a b c d = some (keyS 74 [x, y], packS [a, b, d]) := by
  unfold exchequerref19_Line.f
  rw [ref_pair_tells k hk _ _ _ (by simp) (by simp), Option.bind_some]
theorem same_tells (a b : List Int) (ha : IsBytes a) (hb : IsBytes b) : exchequerlaw19_same.f a b a b = some true := by
  unfold exchequerlaw19_same.f bytes_Equal.f
  rw [strOfNums_same _ _ ha ha, Option.bind_some, if_pos (by simp), strOfNums_same _ _ hb hb, Option.bind_some]
  simp
theorem RecsMake : exchequerlaw19_RecsMake.Pure := by
  intro x0 x1 x2 x3 x4 x5 _ _ _ _ _ _
  refine ⟨40, ?_⟩
  have ha : exchequerlaw19_awake.f 40 = some true := by decide +kernel
  have hs : ∀ (t : Int) (l m : List Int), 0 ≤ t ∧ t < 256 → exchequerlaw19_same.f (keyS t l) (packS m) (keyS t l) (packS m) = some true := fun t l m ht => same_tells _ _ (keyS_bytes ht _) (packS_bytes _)
  unfold exchequerlaw19_RecsMake.f
  rw [node_tells 40 (by decide), Option.bind_some, ref_node_tells 40 (by decide), Option.bind_some, hs _ _ _ (by decide), Option.bind_some, if_pos rfl,
    doc_tells 40 (by decide), Option.bind_some, ref_doc_tells 40 (by decide), Option.bind_some, hs _ _ _ (by decide), Option.bind_some, if_pos rfl,
    docline_tells 40 (by decide), Option.bind_some, ref_docline_tells 40 (by decide), Option.bind_some, hs _ _ _ (by decide), Option.bind_some, if_pos rfl,
    entry_tells 40 (by decide), Option.bind_some, ref_entry_tells 40 (by decide), Option.bind_some, hs _ _ _ (by decide), Option.bind_some, if_pos rfl,
    line_tells 40 (by decide), Option.bind_some, ref_line_tells 40 (by decide), Option.bind_some, hs _ _ _ (by decide), Option.bind_some, if_pos rfl, ha]
  rfl

end Go.Proofs.Ytkahpaipciooiab.Pure

/- What a sector is, by the program, is what the document says. -/
import Derived.Test.YtkahpaipciooiaaDoorPSectorUnpacksy
import Derived.OpenShut
import Derived.Lib.Bytes
import Derived.Laws.BitsLemmas
import Derived.OpenShut
import Derived.Laws.BitsAllLaws
namespace Go.Proofs.YtkahpaipciooiaaDoor.Pure
open Go.RowKit Go.Proofs.YtkahpaipciooiaaDoor.PSectorUnpacks Go.Proofs.YtkahpaipciooiaaDoorW.PrintWords Go.Proofs.YtkahpaipciooiaaDoorW.PrintLast Go.Proofs.YtkahpaipciooiaaDoorW.PrintMore Go Go
/-! ### bytes, big-endian numbers -/
def IsBytes (l : List Int) : Prop := ∀ x ∈ l, 0 ≤ x ∧ x < 256
theorem IsBytes.nil : IsBytes [] := fun x h => by cases h
theorem IsBytes.append {l m : List Int} (h : IsBytes l) (g : IsBytes m) : IsBytes (l ++ m) := fun x hx => (List.mem_append.1 hx).elim (h x) (g x)
theorem IsBytes.left {l m : List Int} (h : IsBytes (l ++ m)) : IsBytes l := fun x hx => h x (List.mem_append.2 (.inl hx))
theorem IsBytes.one {b : Int} (h : 0 ≤ b ∧ b < 256) : IsBytes [b] := fun x hx => by rw [List.mem_singleton.1 hx]; exact h
theorem IsBytes.take {l : List Int} (h : IsBytes l) (n : Nat) : IsBytes (l.take n) := fun x hx => h x (List.mem_of_mem_take hx)
theorem IsBytes.drop {l : List Int} (h : IsBytes l) (n : Nat) : IsBytes (l.drop n) := fun x hx => h x (List.mem_of_mem_drop hx)
theorem IsBytes.of_wf {l : List Int} (h : ∀ x ∈ l, (Lit.int .u8 x).wf = true) : IsBytes l := fun x hx => by have := bounds_u8 (h x hx); omega
theorem IsBytes.replicate (n : Nat) : IsBytes (List.replicate n 0) := fun x hx => by rw [List.eq_of_mem_replicate hx]; decide
def be (n : Int) : Nat → List Int
  | 0 => []
  | s + 1 => be (n / 256) s ++ [n % 256]
theorem be_length : ∀ (s : Nat) (n : Int), (be n s).length = s
  | 0, _ => rfl
  | s + 1, n => by rw [be, List.length_append, be_length s]; rfl
theorem be_bytes : ∀ (s : Nat) (n : Int), IsBytes (be n s)
  | 0, _ => IsBytes.nil
  | s + 1, n => by rw [be]; exact (be_bytes s _).append (IsBytes.one (by omega))
theorem be_front : ∀ (s : Nat) (n : Int), be n (s + 1) = (n / 256 ^ s % 256) :: be n s
  | 0, n => by simp [be]
  | s + 1, n => by
    rw [be, be_front s (n / 256), be]
    rw [Int.ediv_ediv_of_nonneg (show (0 : Int) ≤ 256 by decide), show (256 : Int) * 256 ^ s = 256 ^ (s + 1) by rw [Int.pow_succ, Int.mul_comm]]
    rfl
def beval (l : List Int) : Int := l.foldl (fun a b => a * 256 + b) 0
theorem beval_nil : beval [] = 0 := rfl
theorem beval_snoc (l : List Int) (b : Int) : beval (l ++ [b]) = beval l * 256 + b := by simp [beval]
theorem beval_be : ∀ (s : Nat) (n : Int), beval (be n s) = n % 256 ^ s
  | 0, n => by simp [be, beval, Int.emod_one]
  | s + 1, n => by
    rw [be, beval_snoc, beval_be s]
    have h1 : (0 : Int) < 256 ^ s := Int.pow_pos (by decide)
    have h2 : n % (256 ^ (s + 1)) = n % 256 + 256 * (n / 256 % 256 ^ s) := by
      rw [show (256 : Int) ^ (s + 1) = 256 * 256 ^ s by rw [Int.pow_succ, Int.mul_comm], Int.emod_def n (256 * 256 ^ s), Int.emod_def (n / 256), ← Int.ediv_ediv_of_nonneg (show (0 : Int) ≤ 256 by decide), Int.mul_assoc]
      omega
    rw [h2]
    omega
theorem snoc_ind {P : List Int → Prop} (h0 : P []) (h1 : ∀ l b, P l → P (l ++ [b])) (l : List Int) : P l := by
  have h : ∀ m : List Int, P m.reverse := by
    intro m
    induction m with
    | nil => exact h0
    | cons b m ih => rw [List.reverse_cons]; exact h1 _ _ ih
  have := h l.reverse
  rwa [List.reverse_reverse] at this
theorem beval_bound (l : List Int) (h : IsBytes l) : 0 ≤ beval l ∧ beval l < 256 ^ l.length := by
  revert h
  refine snoc_ind (P := fun l => IsBytes l → 0 ≤ beval l ∧ beval l < 256 ^ l.length) ?_ ?_ l
  · intro _; simp [beval]
  · intro l' b ih h
    have ih := ih h.left
    have hb := h b (by simp)
    rw [beval_snoc, List.length_append, List.length_singleton, Int.pow_succ]
    generalize (256 : Int) ^ l'.length = p at ih
    omega
theorem be_beval (l : List Int) (h : IsBytes l) : be (beval l) l.length = l := by
  revert h
  refine snoc_ind (P := fun l => IsBytes l → be (beval l) l.length = l) ?_ ?_ l
  · intro _; rfl
  · intro l' b ih h
    have ih := ih h.left
    have hb := h b (by simp)
    rw [beval_snoc, List.length_append, List.length_singleton, be, show (beval l' * 256 + b) / 256 = beval l' by omega, show (beval l' * 256 + b) % 256 = b by omega, ih]
theorem beval_take_succ (l : List Int) (i : Nat) (h : i < l.length) : beval (l.take (i + 1)) = beval (l.take i) * 256 + rd l i := by
  rw [List.take_succ_eq_append_getElem h, beval_snoc]
  congr 1
  simp [rd, h]
theorem u8_inj {x y : Int} (hx : 0 ≤ x ∧ x < 256) (hy : 0 ≤ y ∧ y < 256) (h : UInt8.ofNat x.toNat = UInt8.ofNat y.toNat) : x = y := by
  have h2 := congrArg UInt8.toNat h
  simp only [UInt8.toNat_ofNat'] at h2
  omega
theorem strOfNums_inj : ∀ (l m : List Int), IsBytes l → IsBytes m → (l.map fun n => UInt8.ofNat n.toNat) = (m.map fun n => UInt8.ofNat n.toNat) → l = m
  | [], [], _, _, _ => rfl
  | [], _ :: _, _, _, h => by simp at h
  | _ :: _, [], _, _, h => by simp at h
  | x :: l, y :: m, hl, hm, h => by
    simp only [List.map_cons, List.cons.injEq] at h
    rw [u8_inj (hl x (by simp)) (hm y (by simp)) h.1, strOfNums_inj l m (fun z hz => hl z (by simp [hz])) (fun z hz => hm z (by simp [hz])) h.2]
theorem strOfNums_same (l m : List Int) (hl : IsBytes l) (hm : IsBytes m) : ((strOfNums l).toList == (strOfNums m).toList) = decide (l = m) := by
  rw [Lib.strOfNums_toList, Lib.strOfNums_toList]
  by_cases h : l = m
  · subst h; simp
  · rw [decide_eq_false h]
    refine beq_false_of_ne (fun h2 => h (strOfNums_inj l m hl hm h2))
theorem u64_wrap (x : Int) : IntKind.u64.wrap x = x % 18446744073709551616 := by simp [IntKind.wrap, IntKind.bits, IntKind.signed]
theorem i64_wrap (x : Int) : IntKind.i64.wrap x = wrap64 x := by
  unfold wrap64
  simp [IntKind.wrap, IntKind.bits, IntKind.signed]
  split <;> omega
theorem shr_u64_byte (n : Int) (i : Nat) (hi : i < 8) : shr .u64 (IntKind.u64.wrap n) (8 * i) % 256 = n / 256 ^ i % 256 := by
  rw [u64_wrap]
  unfold shr
  rcases (by omega : i = 0 ∨ i = 1 ∨ i = 2 ∨ i = 3 ∨ i = 4 ∨ i = 5 ∨ i = 6 ∨ i = 7) with rfl | rfl | rfl | rfl | rfl | rfl | rfl | rfl <;> simp [IntKind.bits] <;> omega
theorem shr_i64_byte (n : Int) (i : Nat) (hi : i < 8) : shr .i64 n (8 * i) % 256 = n / 256 ^ i % 256 := by
  unfold shr
  rcases (by omega : i = 0 ∨ i = 1 ∨ i = 2 ∨ i = 3 ∨ i = 4 ∨ i = 5 ∨ i = 6 ∨ i = 7) with rfl | rfl | rfl | rfl | rfl | rfl | rfl | rfl <;> simp [IntKind.bits]
theorem or_byte_nat (x b : Int) (hb : 0 ≤ b ∧ b < 256) : (BitVec.ofInt 64 (x * 256) ||| BitVec.ofInt 64 b) = BitVec.ofInt 64 (x * 256 + b) := by
  apply BitVec.eq_of_toNat_eq
  rw [BitVec.toNat_or, BitVec.toNat_ofInt, BitVec.toNat_ofInt, BitVec.toNat_ofInt]
  have e1 : (x * 256 % ((2 ^ 64 : Nat) : Int)).toNat = 2 ^ 8 * (x % 72057594037927936).toNat := by omega
  have e2 : (b % ((2 ^ 64 : Nat) : Int)).toNat = b.toNat := by omega
  rw [e1, e2, ← Nat.two_pow_add_eq_or_of_lt (show b.toNat < 2 ^ 8 by omega)]
  omega
theorem or_byte_u64 (x b : Int) (hb : 0 ≤ b ∧ b < 256) : Go.bits .or .u64 (IntKind.u64.wrap (x * 256)) (IntKind.u64.wrap b) = IntKind.u64.wrap (x * 256 + b) := by
  have e : ∀ y : Int, BitVec.ofInt 64 (IntKind.u64.wrap y) = BitVec.ofInt 64 y := by
    intro y
    apply BitVec.eq_of_toNat_eq
    rw [u64_wrap, BitVec.toNat_ofInt, BitVec.toNat_ofInt]
    omega
  show IntKind.u64.wrap ((BitVec.ofInt 64 (IntKind.u64.wrap (x * 256)) ||| BitVec.ofInt 64 (IntKind.u64.wrap b)).toNat : Int) = _
  rw [e, e, or_byte_nat x b hb, u64_wrap, u64_wrap, BitVec.toNat_ofInt]
  omega
theorem or_byte_i64 (x b : Int) (hb : 0 ≤ b ∧ b < 256) : Go.bits .or .i64 (wrap64 (x * 256)) (wrap64 b) = wrap64 (x * 256 + b) := by
  have e : ∀ y : Int, BitVec.ofInt 64 (wrap64 y) = BitVec.ofInt 64 y := by
    intro y
    apply BitVec.eq_of_toNat_eq
    unfold wrap64
    rw [BitVec.toNat_ofInt, BitVec.toNat_ofInt]
    omega
  show IntKind.i64.wrap ((BitVec.ofInt 64 (wrap64 (x * 256)) ||| BitVec.ofInt 64 (wrap64 b)).toNat : Int) = _
  rw [e, e, or_byte_nat x b hb, i64_wrap, BitVec.toNat_ofInt]
  unfold wrap64
  omega
/-! ### what num's functions come to -/
def sizedS (s : Int) : Bool := s == 1 || s == 2 || s == 4 || s == 8
theorem sizedS_iff (s : Int) : sizedS s = true ↔ s = 1 ∨ s = 2 ∨ s = 4 ∨ s = 8 := by
  unfold sizedS
  simp [or_assoc]
def rightS (n s : Int) : Bool := s == 8 || sizedS s && decide (0 ≤ n) && decide (n < 256 ^ s.toNat)
theorem rightS_sized {n s : Int} (h : rightS n s = true) : s = 1 ∨ s = 2 ∨ s = 4 ∨ s = 8 := by
  unfold rightS at h
  simp only [Bool.or_eq_true, Bool.and_eq_true, beq_iff_eq, decide_eq_true_eq] at h
  rcases h with h | h
  · exact .inr (.inr (.inr h))
  · exact (sizedS_iff s).1 h.1.1
theorem rightS_4 (n : Int) : rightS n 4 = (decide (0 ≤ n) && decide (n < 4294967296)) := by simp [rightS, sizedS]
theorem rightS_2 (n : Int) : rightS n 2 = (decide (0 ≤ n) && decide (n < 65536)) := by simp [rightS, sizedS]
theorem rightS_1 (n : Int) : rightS n 1 = (decide (0 ≤ n) && decide (n < 256)) := by simp [rightS, sizedS]
theorem rightS_8 (n : Int) : rightS n 8 = true := by simp [rightS]
theorem rightS_range {n s : Int} (h : rightS n s = true) (h8 : s ≠ 8) : 0 ≤ n ∧ n < 256 ^ s.toNat := by
  unfold rightS at h
  simp only [Bool.or_eq_true, Bool.and_eq_true, beq_iff_eq, decide_eq_true_eq] at h
  rcases h with h | h
  · exact absurd h h8
  · exact ⟨h.1.2, h.2⟩
def putS (l : List Int) (n s : Int) : List Int := if rightS n s = true then l ++ be n s.toNat else l
theorem putS_bytes {l : List Int} (h : IsBytes l) (n s : Int) : IsBytes (putS l n s) := by
  unfold putS
  split
  · exact h.append (be_bytes _ _)
  · exact h
theorem putS_length (l : List Int) (n s : Int) : l.length ≤ (putS l n s).length ∧ (putS l n s).length ≤ l.length + 8 := by
  unfold putS
  split
  · rename_i h
    rw [List.length_append, be_length]
    have := rightS_sized h
    omega
  · omega
theorem putS_8 (l : List Int) (n : Int) : putS l n 8 = l ++ be n 8 := by unfold putS; rw [if_pos (rightS_8 n)]; rfl
def getS (l : List Int) (at_ s : Int) : Int × Int :=
  if sizedS s = true ∧ 0 ≤ at_ then (if at_ + s ≤ l.length then (wrap64 (beval ((l.drop at_.toNat).take s.toNat)), 0) else (0, 3)) else (0, 1)
theorem num_sized_tells (s : Int) : num_sized.f s = some (sizedS s) := by
  unfold num_sized.f sizedS
  by_cases h1 : s = 1
  · rw [if_pos h1]; subst h1; rfl
  · rw [if_neg h1]
    by_cases h2 : s = 2
    · rw [if_pos h2]; subst h2; rfl
    · rw [if_neg h2]
      by_cases h4 : s = 4
      · rw [if_pos h4]; subst h4; rfl
      · rw [if_neg h4]
        by_cases h8 : s = 8
        · rw [if_pos h8]; subst h8; rfl
        · rw [if_neg h8, beq_false_of_ne h1, beq_false_of_ne h2, beq_false_of_ne h4, beq_false_of_ne h8]; rfl
theorem num_right_tells (n s : Int) : num_Right.f n s = some (rightS n s) := by
  unfold num_Right.f rightS
  by_cases h8 : s = 8
  · rw [if_pos h8]; subst h8; rfl
  · rw [if_neg h8, num_sized_tells]
    simp only [Option.bind_some]
    rw [beq_false_of_ne h8, Bool.false_or]
    by_cases hs : sizedS s = true
    · rw [if_pos hs, hs, Bool.true_and]
      by_cases hn : n ≥ 0
      · rw [if_pos hn, decide_eq_true (show 0 ≤ n from hn), Bool.true_and]
        have h3 : s = 1 ∨ s = 2 ∨ s = 4 := by rcases (sizedS_iff s).1 hs with h | h | h | h <;> simp_all
        have hw : wrap64 (8 * s) = 8 * s := by unfold wrap64; omega
        rw [hw, if_pos (by omega)]
        congr 1
        rw [Bool.eq_iff_iff, beq_iff_eq, decide_eq_true_eq]
        unfold shr
        rcases h3 with rfl | rfl | rfl <;> simp [IntKind.bits] <;> omega
      · rw [if_neg hn, decide_eq_false (show ¬ 0 ≤ n from hn)]; rfl
    · rw [if_neg hs, Bool.eq_false_iff.mpr hs]; rfl
theorem num_put_l0 : ∀ (i k : Nat) (n : Int) (l : List Int), i ≤ 8 → i < k → l.length + i < 140737488355328 → num_Put.l0 k n l (8 * i - 8) = some (l ++ be n i)
  | 0, k, n, l, _, hk, _ => by
    obtain ⟨k, rfl⟩ : ∃ m, k = m + 1 := ⟨k - 1, by omega⟩
    simp only [num_Put.l0]
    rw [if_neg (by omega)]
    simp [be]
  | i + 1, k, n, l, hi, hk, hl => by
    obtain ⟨k, rfl⟩ : ∃ m, k = m + 1 := ⟨k - 1, by omega⟩
    simp only [num_Put.l0]
    rw [if_pos (by omega), if_pos (by omega), if_pos (by omega)]
    have e1 : (8 * ((i + 1 : Nat) : Int) - 8) = 8 * (i : Int) := by omega
    rw [e1, shr_u64_byte n i (by omega), show wrap64 (8 * (i : Int) - 8) = 8 * (i : Int) - 8 by unfold wrap64; omega]
    rw [num_put_l0 i k n _ (by omega) (by omega) (by rw [List.length_append, List.length_singleton]; omega), be_front, List.append_assoc]
    rfl
theorem num_put_tells (k : Nat) (hk : 9 < k) (l : List Int) (n s : Int) (hl : l.length + 8 < 140737488355328) : num_Put.f k l n s = some (putS l n s) := by
  unfold num_Put.f putS
  rw [if_pos (by omega), if_pos (by omega), if_pos (by omega), num_right_tells]
  simp only [Option.bind_some, Int.toNat_natCast]
  have e : l.take (List.replicate l.length (0 : Int)).length ++ (List.replicate l.length (0 : Int)).drop l.length = l := by simp
  rw [e]
  by_cases h : rightS n s = true
  · rw [if_pos h, if_pos h]
    have hs := rightS_sized h
    have e2 : wrap64 (8 * wrap64 (s - 1)) = 8 * (s.toNat : Int) - 8 := by unfold wrap64; omega
    rw [e2]
    exact num_put_l0 s.toNat k n l (by omega) (by omega) (by omega)
  · rw [if_neg h, if_neg h]
theorem pow_le_64 (i : Nat) (h : i ≤ 8) : (256 : Int) ^ i ≤ 18446744073709551616 := by
  rcases (by omega : i = 0 ∨ i = 1 ∨ i = 2 ∨ i = 3 ∨ i = 4 ∨ i = 5 ∨ i = 6 ∨ i = 7 ∨ i = 8) with rfl | rfl | rfl | rfl | rfl | rfl | rfl | rfl | rfl <;> decide
theorem rd_byte {l : List Int} (h : IsBytes l) (i : Nat) (hi : i < l.length) : 0 ≤ rd l i ∧ rd l i < 256 := by
  have : rd l i = l[i] := by simp [rd, hi]
  rw [this]
  exact h _ (List.getElem_mem hi)
theorem num_get_l0 (ys : List Int) (hy : IsBytes ys) (h8 : ys.length ≤ 8) : ∀ (d k i : Nat), i + d = ys.length → d < k → num_Get.l0 k (beval (ys.take i)) ys ys.length i = some (wrap64 (beval ys), 0)
  | 0, k, i, hd, hk => by
    obtain ⟨k, rfl⟩ : ∃ m, k = m + 1 := ⟨k - 1, by omega⟩
    simp only [num_Get.l0]
    rw [if_neg (by omega), List.take_of_length_le (by omega)]
  | d + 1, k, i, hd, hk => by
    obtain ⟨k, rfl⟩ : ∃ m, k = m + 1 := ⟨k - 1, by omega⟩
    simp only [num_Get.l0]
    rw [if_pos (by omega), if_pos (by omega), if_pos (by omega)]
    have hb := rd_byte hy i (by omega)
    have hv := beval_bound (ys.take (i + 1)) (hy.take _)
    rw [List.length_take, Nat.min_eq_left (by omega)] at hv
    have hp := pow_le_64 (i + 1) (by omega)
    rw [or_byte_u64 _ _ hb, ← beval_take_succ ys i (by omega), u64_wrap, Int.emod_eq_of_lt hv.1 (by omega)]
    rw [show wrap64 ((i : Int) + 1) = ((i + 1 : Nat) : Int) by unfold wrap64; omega]
    exact num_get_l0 ys hy h8 d k (i + 1) (by omega) (by omega)
theorem num_get_tells (k : Nat) (hk : 12 < k) (l : List Int) (hl : IsBytes l) (hn : l.length ≤ 140737488355328) (a s : Int) (ha : (Lit.int .i64 a).wf = true) : num_Get.f k l a s = some (getS l a s) := by
  obtain ⟨k, rfl⟩ : ∃ m, k = m + 2 := ⟨k - 2, by omega⟩
  have ba := bounds_i64 ha
  unfold num_Get.f getS
  rw [num_sized_tells]
  simp only [Option.bind_some]
  by_cases hs : sizedS s = true
  · rw [if_pos hs]
    have h4 := (sizedS_iff s).1 hs
    by_cases h0 : a < 0
    · rw [decide_eq_true h0, if_neg (by omega)]
      simp [num_Get.j0]
    · rw [decide_eq_false h0, if_pos ⟨hs, by omega⟩]
      simp only [num_Get.j0]
      rw [if_neg (by decide)]
      by_cases hle : a + s ≤ l.length
      · rw [if_neg (by omega), if_pos hle, decide_eq_false (by unfold wrap64; omega)]
        simp only [num_Get.j1]
        have hw : wrap64 (a + s) = a + s := by unfold wrap64; omega
        rw [if_neg (by decide), hw, if_pos (by omega), if_pos (by omega), if_pos (by omega)]
        simp only [Option.bind_some]
        have e : (l.take (a + s).toNat).drop a.toNat = (l.drop a.toNat).take s.toNat := by
          rw [List.drop_take]; congr 1; omega
        rw [e]
        have hlen : ((l.drop a.toNat).take s.toNat).length ≤ 8 := by rw [List.length_take]; omega
        exact num_get_l0 _ ((hl.drop _).take _) hlen _ k 0 (Nat.zero_add _) (by omega)
      · rw [if_neg hle]
        by_cases hlt : (l.length : Int) < s
        · rw [if_pos hlt]
          simp [num_Get.j1]
        · rw [if_neg hlt, decide_eq_true (by unfold wrap64; omega)]
          simp [num_Get.j1]
  · rw [if_neg hs, if_neg (fun h => hs h.1)]
    simp [num_Get.j0]
theorem ref_sized_tells (s : Int) : exchequerref01_sized.f s = some (sizedS s) := by
  unfold exchequerref01_sized.f sizedS
  by_cases h1 : s = 1
  · rw [if_pos h1]; subst h1; rfl
  · rw [if_neg h1]
    by_cases h2 : s = 2
    · rw [if_pos h2]; subst h2; rfl
    · rw [if_neg h2]
      by_cases h4 : s = 4
      · rw [if_pos h4]; subst h4; rfl
      · rw [if_neg h4, beq_false_of_ne h1, beq_false_of_ne h2, beq_false_of_ne h4]; rfl
theorem ref_get_l0 (l : List Int) (hl : IsBytes l) (a s : Int) (h0 : 0 ≤ a) (hs : 0 ≤ s ∧ s ≤ 8) (hle : a + s ≤ l.length) (hn : l.length ≤ 140737488355328) : ∀ (d k i : Nat), (i : Int) + d = s → d < k → exchequerref01_Get.l0 k l a s (wrap64 (beval (((l.drop a.toNat).take s.toNat).take i))) i = some (wrap64 (beval ((l.drop a.toNat).take s.toNat)), 0)
  | 0, k, i, hd, hk => by
    obtain ⟨k, rfl⟩ : ∃ m, k = m + 1 := ⟨k - 1, by omega⟩
    simp only [exchequerref01_Get.l0]
    rw [if_neg (by omega), List.take_of_length_le (by rw [List.length_take]; omega)]
  | d + 1, k, i, hd, hk => by
    obtain ⟨k, rfl⟩ : ∃ m, k = m + 1 := ⟨k - 1, by omega⟩
    simp only [exchequerref01_Get.l0]
    have e1 : wrap64 (a + i) = a + i := by unfold wrap64; omega
    have hlen : ((l.drop a.toNat).take s.toNat).length = s.toNat := by rw [List.length_take, List.length_drop]; omega
    rw [e1, if_pos (by omega), if_pos (by omega), if_pos (by omega)]
    have hr : rd l (a + i) = rd ((l.drop a.toNat).take s.toNat) i := by
      unfold rd
      rw [show (a + (i : Int)).toNat = a.toNat + i by omega, Int.toNat_natCast, List.getD_eq_getElem?_getD, List.getD_eq_getElem?_getD, List.getElem?_take, if_pos (by omega), List.getElem?_drop]
    have hb := rd_byte ((hl.drop a.toNat).take s.toNat) i (by omega)
    rw [hr]
    have e2 : wrap64 (wrap64 (beval (((l.drop a.toNat).take s.toNat).take i)) * 256) = wrap64 (beval (((l.drop a.toNat).take s.toNat).take i) * 256) := by unfold wrap64; omega
    rw [e2, or_byte_i64 _ _ hb, ← beval_take_succ _ i (by omega)]
    rw [show wrap64 ((i : Int) + 1) = ((i + 1 : Nat) : Int) by unfold wrap64; omega]
    exact ref_get_l0 l hl a s h0 hs hle hn d k (i + 1) (by omega) (by omega)
theorem ref_get_tells (k : Nat) (hk : 12 < k) (l : List Int) (hl : IsBytes l) (hn : l.length ≤ 140737488355328) (a s : Int) (ha : (Lit.int .i64 a).wf = true) : exchequerref01_Get.f k l a s = some (getS l a s) := by
  obtain ⟨k, rfl⟩ : ∃ m, k = m + 2 := ⟨k - 2, by omega⟩
  have ba := bounds_i64 ha
  unfold exchequerref01_Get.f getS
  rw [ref_sized_tells]
  simp only [Option.bind_some]
  by_cases hs : sizedS s = true
  · rw [if_pos hs]
    have h4 := (sizedS_iff s).1 hs
    by_cases h0 : a < 0
    · rw [decide_eq_true h0, if_neg (by omega)]
      simp [exchequerref01_Get.j0]
    · rw [decide_eq_false h0, if_pos ⟨hs, by omega⟩]
      simp only [exchequerref01_Get.j0]
      rw [if_neg (by decide)]
      by_cases hle : a + s ≤ l.length
      · rw [if_neg (by unfold wrap64; omega), if_pos hle]
        have := ref_get_l0 l hl a s (by omega) (by omega) hle hn s.toNat (k + 1) 0 (by omega) (by omega)
        simpa [beval_nil, show wrap64 0 = 0 by unfold wrap64; omega] using this
      · rw [if_neg hle, if_pos (by unfold wrap64; omega)]
  · rw [if_neg hs, if_neg (fun h => hs h.1)]
    simp [exchequerref01_Get.j0]
/-! ### the check sum, over Nat -/
def poly : Nat := 3988292384
def bs (x : Nat) : Nat := x / 2 ^^^ (if x % 2 = 1 then poly else 0)
theorem xor_half (a b : Nat) : (a ^^^ b) / 2 = a / 2 ^^^ b / 2 := by
  apply Nat.eq_of_testBit_eq
  intro i
  simp [Nat.testBit_div_two]
theorem xor_odd (a b : Nat) : (a ^^^ b) % 2 = (a + b) % 2 := by
  have h : (a ^^^ b).testBit 0 = (a.testBit 0 ^^ b.testBit 0) := Nat.testBit_xor ..
  simp only [Nat.testBit_zero] at h
  rcases Nat.mod_two_eq_zero_or_one a with ha | ha <;> rcases Nat.mod_two_eq_zero_or_one b with hb | hb <;> rcases Nat.mod_two_eq_zero_or_one (a ^^^ b) with hc | hc <;> simp [ha, hb, hc] at h <;> omega
theorem xor_lc (a b c : Nat) : a ^^^ (b ^^^ c) = b ^^^ (a ^^^ c) := by rw [← Nat.xor_assoc, Nat.xor_comm a b, Nat.xor_assoc]
theorem xor_un (a b : Nat) : a ^^^ (a ^^^ b) = b := by rw [← Nat.xor_assoc, Nat.xor_self, Nat.zero_xor]
theorem xor_cancel_right {a b c : Nat} (h : a ^^^ c = b ^^^ c) : a = b := by
  have := congrArg (· ^^^ c) h
  simpa [Nat.xor_assoc] using this
theorem xor_cancel_left {a b c : Nat} (h : c ^^^ a = c ^^^ b) : a = b := xor_cancel_right (c := c) (by rw [Nat.xor_comm a, Nat.xor_comm b]; exact h)
theorem bs_xor (a b : Nat) : bs (a ^^^ b) = bs a ^^^ bs b := by
  unfold bs
  rw [xor_half, xor_odd]
  rcases Nat.mod_two_eq_zero_or_one a with ha | ha <;> rcases Nat.mod_two_eq_zero_or_one b with hb | hb <;> simp [Nat.add_mod, ha, hb, Nat.xor_comm, xor_lc, xor_un]
theorem bs_zero : bs 0 = 0 := by decide
def bsN : Nat → Nat → Nat
  | 0, x => x
  | n + 1, x => bsN n (bs x)
theorem bsN_xor : ∀ (n a b : Nat), bsN n (a ^^^ b) = bsN n a ^^^ bsN n b
  | 0, _, _ => rfl
  | n + 1, a, b => by rw [bsN, bsN, bsN, bs_xor, bsN_xor n]
theorem bs_lt {x : Nat} (h : x < 4294967296) : bs x < 4294967296 := by
  unfold bs
  have h1 : x / 2 < 2 ^ 32 := by omega
  have h2 : (if x % 2 = 1 then poly else 0) < 2 ^ 32 := by split <;> decide
  exact Nat.xor_lt_two_pow h1 h2
theorem bsN_lt : ∀ (n : Nat) {x : Nat}, x < 4294967296 → bsN n x < 4294967296
  | 0, _, h => h
  | n + 1, _, h => bsN_lt n (bs_lt h)
theorem bsN_add : ∀ (m n x : Nat), bsN (m + n) x = bsN n (bsN m x)
  | 0, n, x => by rw [Nat.zero_add]; rfl
  | m + 1, n, x => by rw [Nat.add_right_comm, bsN, bsN_add m, bsN]
def bit (x : Nat) : Nat := if x % 2 = 1 then poly else 0
theorem bs_split (x : Nat) : bs x = x / 2 ^^^ bit x := rfl
/-- four bit steps at once: by the low half byte. -/
theorem four_split (x : Nat) : bsN 4 x = x / 16 ^^^ (bit (x / 8) ^^^ (bsN 1 (bit (x / 4)) ^^^ (bsN 2 (bit (x / 2)) ^^^ bsN 3 (bit x)))) := by
  rw [bsN, bs_split x, bsN_xor, bsN, bs_split (x / 2), bsN_xor, bsN, bs_split (x / 2 / 2), bsN_xor, bsN, bs_split (x / 2 / 2 / 2)]
  rw [show x / 2 / 2 / 2 / 2 = x / 16 by omega, show x / 2 / 2 / 2 = x / 8 by omega, show x / 2 / 2 = x / 4 by omega]
  simp only [bsN, Nat.xor_assoc]
theorem bit_mod (x d m : Nat) (h : (x / d) % 2 = (m / d) % 2) : bit (x / d) = bit (m / d) := by unfold bit; rw [h]
theorem four_low (x : Nat) : bsN 4 x = x / 16 ^^^ bsN 4 (x % 16) := by
  rw [four_split x, four_split (x % 16)]
  rw [bit_mod x 8 (x % 16) (by omega), bit_mod x 4 (x % 16) (by omega), bit_mod x 2 (x % 16) (by omega)]
  rw [show bit x = bit (x % 16) by unfold bit; rw [show x % 16 % 2 = x % 2 by omega], show x % 16 / 16 = 0 by omega, Nat.zero_xor]
theorem bs_inj {x y : Nat} (hx : x < 4294967296) (hy : y < 4294967296) (h : bs x = bs y) : x = y := by
  have top : ∀ z : Nat, z < 4294967296 → (bs z).testBit 31 = decide (z % 2 = 1) := by
    intro z hz
    unfold bs
    rw [Nat.testBit_xor, Nat.testBit_lt_two_pow (show z / 2 < 2 ^ 31 by omega)]
    by_cases hh : z % 2 = 1
    · rw [if_pos hh]; simp [hh]; decide
    · rw [if_neg hh]; simp [hh]
  have hp : decide (x % 2 = 1) = decide (y % 2 = 1) := by rw [← top x hx, ← top y hy, h]
  have hp' : x % 2 = 1 ↔ y % 2 = 1 := by simpa using hp
  unfold bs at h
  have e : (if x % 2 = 1 then poly else 0) = (if y % 2 = 1 then poly else 0) := by simp only [hp']
  rw [e] at h
  have h2 : x / 2 = y / 2 := xor_cancel_right h
  omega
theorem bsN_inj : ∀ (n : Nat) {x y : Nat}, x < 4294967296 → y < 4294967296 → bsN n x = bsN n y → x = y
  | 0, _, _, _, _, h => h
  | n + 1, _, _, hx, hy, h => bs_inj hx hy (bsN_inj n (bs_lt hx) (bs_lt hy) h)
def stepN (c b : Nat) : Nat := bsN 8 (c ^^^ b)
theorem xor_u32 {a b : Nat} (h : a < 4294967296) (g : b < 4294967296) : a ^^^ b < 4294967296 := Nat.xor_lt_two_pow (n := 32) h g
theorem stepN_lt {c b : Nat} (h : c < 4294967296) (g : b < 256) : stepN c b < 4294967296 := bsN_lt 8 (xor_u32 h (by omega))
theorem stepN_inj_c {c d b : Nat} (h : c < 4294967296) (g : d < 4294967296) (hb : b < 256) (e : stepN c b = stepN d b) : c = d := xor_cancel_right (bsN_inj 8 (xor_u32 h (by omega)) (xor_u32 g (by omega)) e)
theorem stepN_inj_b {c a b : Nat} (h : c < 4294967296) (ha : a < 256) (hb : b < 256) (e : stepN c a = stepN c b) : a = b := xor_cancel_left (bsN_inj 8 (xor_u32 h (by omega)) (xor_u32 h (by omega)) e)
def sumN (c : Nat) (l : List Int) : Nat := l.foldl (fun c b => stepN c b.toNat) c
theorem nib_tells : ∀ r : Nat, r < 16 → rd nibL (r : Int) = ((bsN 4 r : Nat) : Int) := by decide
theorem four_tells (x : Nat) (h : x < 4294967296) : crc_four.f (x : Int) = some ((bsN 4 x : Nat) : Int) := by
  unfold crc_four.f
  rw [if_pos (by omega), if_pos (by omega), show ((x : Int) % 16) = ((x % 16 : Nat) : Int) by omega, nib_tells _ (by omega), show ((x : Int) / 16) = ((x / 16 : Nat) : Int) by omega,
    u32_xor_nat _ _ (by omega) (bsN_lt 4 (by omega)), ← four_low]
theorem step_tells (c b : Int) (h0 : 0 ≤ c) (h1 : c < 4294967296) (g0 : 0 ≤ b) (g1 : b < 256) : crc_Step.f c b = some ((stepN c.toNat b.toNat : Nat) : Int) := by
  unfold crc_Step.f
  rw [show b % 4294967296 = b by omega, u32_xor c b h0 h1 g0 (by omega), four_tells _ (xor_u32 (by omega) (by omega)), Option.bind_some, four_tells _ (bsN_lt 4 (xor_u32 (by omega) (by omega))), Option.bind_some]
  rw [← bsN_add]; rfl
theorem sumN_lt : ∀ (l : List Int) (_ : ∀ x ∈ l, 0 ≤ x ∧ x < 256) {c : Nat}, c < 4294967296 → sumN c l < 4294967296
  | [], _, _, h => h
  | a :: l, hl, c, h => by
    have ha := hl a (by simp)
    exact sumN_lt l (fun x hx => hl x (by simp [hx])) (stepN_lt h (show a.toNat < 256 by omega))
theorem sum_l0_tells (l : List Int) (hw : ∀ x ∈ l, 0 ≤ x ∧ x < 256) (hl : l.length ≤ 4000) : ∀ (k : Nat) (i : Nat) (c : Nat), l.length - i < k → i ≤ l.length → c < 4294967296 → crc_Sum.l0 k (c : Int) l (l.length : Int) (i : Int) = some (Go.bits .xor .u32 (Go.IntKind.max .u32) ((sumN c (l.drop i) : Nat) : Int))
  | 0, i, c, h, _, _ => by omega
  | k + 1, i, c, h, hi, hc => by
    rw [crc_Sum.l0]
    by_cases hh : i < l.length
    · rw [if_pos (by omega), if_pos (by omega), if_pos (by omega)]
      have hr : rd l (i : Int) = l[i] := by simp [rd, hh]
      have hb := hw l[i] (List.getElem_mem hh)
      rw [hr, step_tells _ _ (by omega) (by omega) hb.1 hb.2, Option.bind_some, show wrap64 ((i : Int) + 1) = ((i + 1 : Nat) : Int) by unfold wrap64; omega, sum_l0_tells l hw hl k (i + 1) _ (by omega) (by omega) (stepN_lt (by omega) (by omega)), List.drop_eq_getElem_cons hh, Int.toNat_natCast]
      rfl
    · rw [if_neg (by omega), show l.drop i = [] from List.drop_of_length_le (by omega)]; rfl
def sumI (l : List Int) : Int := ((4294967295 ^^^ sumN 4294967295 l : Nat) : Int)
theorem sum_tells (k : Nat) (l : List Int) (hw : ∀ x ∈ l, 0 ≤ x ∧ x < 256) (hl : l.length ≤ 4000) (hk : l.length < k) : crc_Sum.f k l = some (sumI l) := by
  unfold crc_Sum.f
  have := sum_l0_tells l hw hl k 0 4294967295 (by omega) (by omega) (by omega)
  rw [show ((4294967295 : Nat) : Int) = 4294967295 from rfl, show ((0 : Nat) : Int) = 0 from rfl, List.drop_zero] at this
  rw [this, show Go.IntKind.max .u32 = ((4294967295 : Nat) : Int) from rfl, u32_xor_nat _ _ (by omega) (sumN_lt l hw (by omega))]; rfl
theorem bit_ref (c : Nat) (h : c < 4294967296) : (if Int.tmod (c : Int) 2 = 1 then Go.bits .xor .u32 ((Int.tdiv (c : Int) 2) % 4294967296) 3988292384 else (Int.tdiv (c : Int) 2) % 4294967296) = ((bs c : Nat) : Int) := by
  have e : (Int.tdiv (c : Int) 2) % 4294967296 = ((c / 2 : Nat) : Int) := by rw [Int.tdiv_eq_ediv_of_nonneg (by omega)]; omega
  have m : Int.tmod (c : Int) 2 = ((c % 2 : Nat) : Int) := by rw [Int.tmod_eq_emod_of_nonneg (by omega)]; omega
  rw [e, m]
  unfold bs
  by_cases hh : c % 2 = 1
  · rw [if_pos (by omega), if_pos hh, show (3988292384 : Int) = ((poly : Nat) : Int) from rfl, u32_xor_nat _ _ (by omega) (by decide)]
  · rw [if_neg (by omega), if_neg hh, Nat.xor_zero]
theorem refstep_l0 : ∀ (k i : Nat) (c : Nat), c < 4294967296 → i ≤ 8 → 8 - i < k → exchequerref02_Step.l0 k (c : Int) (i : Int) = some ((bsN (8 - i) c : Nat) : Int)
  | 0, _, _, _, _, h => by omega
  | k + 1, i, c, hc, hi, hk => by
    rw [exchequerref02_Step.l0]
    by_cases hh : i < 8
    · rw [if_pos (by omega), show wrap64 ((i : Int) + 1) = ((i + 1 : Nat) : Int) by unfold wrap64; omega]
      have hb := bit_ref c hc
      rw [show 8 - i = (8 - (i + 1)) + 1 by omega, bsN, ← refstep_l0 k (i + 1) (bs c) (bs_lt hc) (by omega) (by omega), ← hb]
      split <;> rfl
    · rw [if_neg (by omega), show 8 - i = 0 by omega]; rfl
theorem refstep_tells (k : Nat) (hk : 8 < k) (c b : Int) (h0 : 0 ≤ c) (h1 : c < 4294967296) (g0 : 0 ≤ b) (g1 : b < 256) : exchequerref02_Step.f k c b = some ((stepN c.toNat b.toNat : Nat) : Int) := by
  unfold exchequerref02_Step.f
  rw [show b % 4294967296 = b by omega, u32_xor c b h0 h1 g0 (by omega)]
  exact refstep_l0 k 0 _ (xor_u32 (by omega) (by omega)) (by omega) (by omega)
theorem refsum_l0 (l : List Int) (hw : ∀ x ∈ l, 0 ≤ x ∧ x < 256) (hl : l.length ≤ 4000) : ∀ (k : Nat) (i : Nat) (c : Nat), l.length - i + 9 < k → i ≤ l.length → c < 4294967296 → exchequerref02_Sum.l0 k l (c : Int) (i : Int) = some (Go.bits .xor .u32 ((sumN c (l.drop i) : Nat) : Int) 4294967295)
  | 0, i, c, h, _, _ => by omega
  | k + 1, i, c, h, hi, hc => by
    rw [exchequerref02_Sum.l0]
    by_cases hh : i < l.length
    · rw [if_pos (by omega), if_pos (by omega)]
      have hr : rd l (i : Int) = l[i] := by simp [rd, hh]
      have hb := hw l[i] (List.getElem_mem hh)
      rw [hr, refstep_tells k (by omega) _ _ (by omega) (by omega) hb.1 hb.2, Option.bind_some, show wrap64 ((i : Int) + 1) = ((i + 1 : Nat) : Int) by unfold wrap64; omega, refsum_l0 l hw hl k (i + 1) _ (by omega) (by omega) (stepN_lt (by omega) (by omega)), List.drop_eq_getElem_cons hh, Int.toNat_natCast]
      rfl
    · rw [if_neg (by omega), show l.drop i = [] from List.drop_of_length_le (by omega)]; rfl
theorem refsum_tells (k : Nat) (l : List Int) (hw : ∀ x ∈ l, 0 ≤ x ∧ x < 256) (hl : l.length ≤ 4000) (hk : l.length + 9 < k) : exchequerref02_Sum.f k l = some (sumI l) := by
  unfold exchequerref02_Sum.f
  have := refsum_l0 l hw hl k 0 4294967295 (by omega) (by omega) (by omega)
  rw [show ((4294967295 : Nat) : Int) = 4294967295 from rfl, show ((0 : Nat) : Int) = 0 from rfl, List.drop_zero] at this
  rw [this, show (4294967295 : Int) = ((4294967295 : Nat) : Int) from rfl, u32_xor_nat _ _ (sumN_lt l hw (by omega)) (by omega), Nat.xor_comm]; rfl
theorem sumN_inj : ∀ (l : List Int) (_ : ∀ x ∈ l, 0 ≤ x ∧ x < 256) {c d : Nat}, c < 4294967296 → d < 4294967296 → sumN c l = sumN d l → c = d
  | [], _, _, _, _, _, h => h
  | a :: l, hl, c, d, hc, hd, h => by
    have ha := hl a (by simp)
    exact stepN_inj_c hc hd (show a.toNat < 256 by omega) (sumN_inj l (fun x hx => hl x (by simp [hx])) (stepN_lt hc (by omega)) (stepN_lt hd (by omega)) h)
theorem sumN_set : ∀ (l : List Int) (_ : ∀ x ∈ l, 0 ≤ x ∧ x < 256) (i : Nat) (hi : i < l.length) (v : Int), 0 ≤ v → v < 256 → ∀ {c : Nat}, c < 4294967296 → sumN c l = sumN c (l.set i v) → l[i] = v
  | [], _, i, hi, _, _, _, _, _, _ => by simp at hi
  | a :: l, hl, 0, _, v, h0, h1, c, hc, h => by
    have ha := hl a (by simp)
    have := stepN_inj_b hc (show a.toNat < 256 by omega) (show v.toNat < 256 by omega) (sumN_inj l (fun x hx => hl x (by simp [hx])) (stepN_lt hc (by omega)) (stepN_lt hc (by omega)) h)
    show a = v; omega
  | a :: l, hl, i + 1, hi, v, h0, h1, c, hc, h => by
    have ha := hl a (by simp)
    exact sumN_set l (fun x hx => hl x (by simp [hx])) i (by simpa using hi) v h0 h1 (stepN_lt hc (show a.toNat < 256 by omega)) h
/-! ### sectors -/
theorem sumI_range (l : List Int) (hw : IsBytes l) : 0 ≤ sumI l ∧ sumI l < 4294967296 := by
  have := xor_u32 (show 4294967295 < 4294967296 by omega) (sumN_lt l hw (c := 4294967295) (by omega))
  unfold sumI; omega
def rightP (p s : Int) : Bool := decide (0 ≤ p) && decide (p < 4294967296) && decide (0 ≤ s) && decide (s ≤ 4611686018427387904)
theorem rightP_iff (p s : Int) : rightP p s = true ↔ 0 ≤ p ∧ p < 4294967296 ∧ 0 ≤ s ∧ s ≤ 4611686018427387904 := by
  unfold rightP; simp only [Bool.and_eq_true, decide_eq_true_eq]; omega
theorem sector_right_tells (p s : Int) : sector_Right.f p s = some (rightP p s) := by
  unfold sector_Right.f
  rw [num_right_tells, Option.bind_some, rightS_4]
  unfold rightP
  by_cases h1 : 0 ≤ p <;> by_cases h2 : p < 4294967296 <;> by_cases h3 : 0 ≤ s <;> simp [h1, h2, h3] <;> omega
def sealedS (b : List Int) : List Int := be (sumI b) 4 ++ b
theorem putS_4 (l : List Int) (n : Int) (h : 0 ≤ n ∧ n < 4294967296) : putS l n 4 = l ++ be n 4 := by
  unfold putS; rw [rightS_4, if_pos (by simp; omega)]; rfl
theorem sealedS_length (b : List Int) : (sealedS b).length = b.length + 4 := by unfold sealedS; rw [List.length_append, be_length]; omega
theorem sealedS_bytes {b : List Int} (h : IsBytes b) : IsBytes (sealedS b) := (be_bytes _ _).append h
theorem sector_sealed_tells (k : Nat) (hk : 4000 < k) (b : List Int) (hb : IsBytes b) (hl : b.length ≤ 3900) : sector_sealed.f k b = some (sealedS b) := by
  have hr := sumI_range b hb
  unfold sector_sealed.f
  rw [sum_tells k b hb (by omega) (by omega), Option.bind_some, show wrap64 (sumI b) = sumI b by unfold wrap64; omega, num_put_tells k (by omega) _ _ _ (by simp), Option.bind_some, putS_4 _ _ hr, List.nil_append, if_pos (by rw [be_length]; omega)]
  rfl
def bodyS (p s : Int) (d : List Int) : List Int := be p 4 ++ be s 8 ++ d
theorem bodyS_length (p s : Int) (d : List Int) : (bodyS p s d).length = d.length + 12 := by unfold bodyS; rw [List.length_append, List.length_append, be_length, be_length]; omega
theorem bodyS_bytes (p s : Int) {d : List Int} (h : IsBytes d) : IsBytes (bodyS p s d) := ((be_bytes _ _).append (be_bytes _ _)).append h
def packP (p s : Int) (d : List Int) : List Int × Int := if rightP p s = true ∧ d.length = 240 then (sealedS (bodyS p s d), 0) else ([], 1)
theorem sector_pack_tells (k : Nat) (hk : 4001 < k) (p s : Int) (d : List Int) (hd : IsBytes d) : sector_Pack.f k p s d = some (packP p s d) := by
  obtain ⟨k, rfl⟩ : ∃ j, k = j + 1 := ⟨k - 1, by omega⟩
  unfold sector_Pack.f packP
  rw [sector_right_tells, Option.bind_some]
  by_cases hr : rightP p s = true
  · rw [if_pos hr, sector_Pack.j0]
    have hr' := (rightP_iff p s).1 hr
    by_cases hl : d.length = 240
    · rw [if_neg (by simp; omega), if_pos ⟨hr, hl⟩, num_put_tells k (by omega) _ _ _ (by simp), Option.bind_some, putS_4 _ _ (by omega), List.nil_append, num_put_tells k (by omega) _ _ _ (by rw [be_length]; omega), Option.bind_some, putS_8,
        if_pos (by rw [List.length_append, be_length, be_length]; omega), show be p 4 ++ be s 8 ++ d = bodyS p s d from rfl, sector_sealed_tells k (by omega) _ (bodyS_bytes p s hd) (by rw [bodyS_length]; omega), Option.bind_some]
    · rw [if_pos (by simp; omega), if_neg (fun h => hl h.2)]
  · rw [if_neg hr, sector_Pack.j0, if_pos rfl, if_neg (fun h => hr h.1)]
def pageS (b : List Int) : Int := beval ((b.drop 4).take 4)
def seqS (b : List Int) : Int := wrap64 (beval ((b.drop 8).take 8))
def unpackP (b : List Int) : Int × Int × List Int × Int := if b.length = 256 ∧ sealedS (b.drop 4) = b ∧ rightP (pageS b) (seqS b) = true then (pageS b, seqS b, b.drop 16, 0) else (0, 0, [], 4)
theorem beval4 (b : List Int) (hb : IsBytes b) (i : Nat) : 0 ≤ beval ((b.drop i).take 4) ∧ beval ((b.drop i).take 4) < 4294967296 := by
  have h := beval_bound _ ((hb.drop i).take 4)
  have hl : ((b.drop i).take 4).length ≤ 4 := List.length_take_le _ _
  have : (256 : Int) ^ ((b.drop i).take 4).length ≤ 256 ^ 4 := by
    have : ((b.drop i).take 4).length = 0 ∨ ((b.drop i).take 4).length = 1 ∨ ((b.drop i).take 4).length = 2 ∨ ((b.drop i).take 4).length = 3 ∨ ((b.drop i).take 4).length = 4 := by omega
    rcases this with h | h | h | h | h <;> rw [h] <;> decide
  omega
theorem getS_page (b : List Int) (hb : IsBytes b) (hl : b.length = 256) : getS b 4 4 = (pageS b, 0) := by
  have := beval4 b hb 4
  unfold getS pageS
  rw [if_pos ⟨by decide, by omega⟩, if_pos (by omega)]
  rw [show (4 : Int).toNat = 4 from rfl, show wrap64 (beval ((b.drop 4).take 4)) = beval ((b.drop 4).take 4) by unfold wrap64; omega]
theorem getS_seq (b : List Int) (hl : b.length = 256) : getS b 8 8 = (seqS b, 0) := by
  unfold getS seqS
  rw [if_pos ⟨by decide, by omega⟩, if_pos (by omega)]
  rfl
theorem bytes_clone_tells (l : List Int) (h : l.length < 140737488355328) : bytes_Clone.f l = some l := by unfold bytes_Clone.f; rw [if_pos h]
theorem bytes_equal_tells (x y : List Int) (hx : IsBytes x) (hy : IsBytes y) : bytes_Equal.f x y = some (decide (x = y)) := by unfold bytes_Equal.f; rw [strOfNums_same x y hx hy]
theorem sector_unpack_tells (k : Nat) (hk : 4001 < k) (b : List Int) (hb : IsBytes b) : sector_Unpack.f k b = some (unpackP b) := by
  obtain ⟨k, rfl⟩ : ∃ j, k = j + 1 := ⟨k - 1, by omega⟩
  unfold sector_Unpack.f unpackP
  by_cases hl : b.length = 256
  · rw [if_pos (by omega), if_pos (by omega), sector_sealed_tells (k + 1) (by omega) _ (hb.drop 4) (by rw [List.length_drop]; omega), Option.bind_some, bytes_equal_tells _ _ (sealedS_bytes (hb.drop 4)) hb, Option.bind_some, sector_Unpack.j0]
    by_cases hs : sealedS (b.drop 4) = b
    · rw [if_neg (by simp [hs]), num_get_tells k (by omega) _ hb (by omega) _ _ (by decide), Option.bind_some, getS_page b hb hl, num_get_tells k (by omega) _ hb (by omega) _ _ (by decide), Option.bind_some, getS_seq b hl, sector_right_tells, Option.bind_some]
      by_cases hr : rightP (pageS b) (seqS b) = true
      · rw [if_pos hr, if_pos (by omega), bytes_clone_tells _ (by rw [List.length_drop]; omega), Option.bind_some, if_pos ⟨hl, hs, hr⟩]
      · rw [if_neg hr, if_neg (fun h => hr h.2.2)]
    · rw [if_pos (by simp [hs]), if_neg (fun h => hs h.2.1)]
  · rw [if_neg (by omega), sector_Unpack.j0, if_pos rfl, if_neg (fun h => hl h.1)]
theorem sector_awake (k : Nat) (hk : 4002 < k) (ha : (packP 3 7 (List.replicate 240 0)).2 = 0 ∧ ((packP 3 7 (List.replicate 240 0)).1.length : Int) = 256 ∧ unpackP (packP 3 7 (List.replicate 240 0)).1 = (3, 7, List.replicate 240 0, 0) ∧ unpackP (List.replicate 256 0) = (0, 0, [], 4)) (hb : IsBytes (packP 3 7 (List.replicate 240 0)).1) : exchequerlaw04_awake.f k = some true := by
  unfold exchequerlaw04_awake.f
  rw [if_pos (by decide), sector_pack_tells k (by omega) _ _ _ (IsBytes.replicate 240), Option.bind_some, sector_unpack_tells k (by omega) _ hb, Option.bind_some, if_pos (by decide), sector_unpack_tells k (by omega) _ (IsBytes.replicate 256), Option.bind_some, if_pos ha.1, ha.2.2.1, ha.2.2.2, if_pos rfl, if_pos ha.2.1, if_pos rfl, if_pos rfl, if_pos (by rw [List.length_replicate]; rfl)]
  rfl
theorem sealedS_drop (b : List Int) : (sealedS b).drop 4 = b := by
  unfold sealedS
  rw [List.drop_append_of_le_length (by rw [be_length]; omega), List.drop_of_length_le (by rw [be_length]; omega), List.nil_append]
theorem sealedS_take (b : List Int) : (sealedS b).take 4 = be (sumI b) 4 := by
  unfold sealedS
  rw [List.take_append_of_le_length (by rw [be_length]; omega), List.take_of_length_le (by rw [be_length]; omega)]
theorem take_front (a b : List Int) (n : Nat) (h : a.length = n) : (a ++ b).take n = a := by rw [List.take_append_of_le_length (by omega), List.take_of_length_le (by omega)]
theorem drop_front (a b : List Int) (n : Nat) (h : a.length = n) : (a ++ b).drop n = b := by rw [List.drop_append_of_le_length (by omega), List.drop_of_length_le (by omega), List.nil_append]
theorem pageS_sealed (p s : Int) (d : List Int) (h : 0 ≤ p ∧ p < 4294967296) : pageS (sealedS (bodyS p s d)) = p := by
  unfold pageS
  rw [sealedS_drop, bodyS, List.append_assoc, take_front _ _ 4 (be_length _ _), beval_be]
  omega
theorem seqS_sealed (p s : Int) (d : List Int) (h : 0 ≤ s ∧ s ≤ 4611686018427387904) : seqS (sealedS (bodyS p s d)) = s := by
  unfold seqS
  rw [show 8 = 4 + 4 from rfl, ← List.drop_drop, sealedS_drop, bodyS, List.append_assoc, drop_front _ _ 4 (be_length _ _), take_front _ _ (4 + 4) (be_length _ _), beval_be]
  unfold wrap64; omega
theorem unpack_pack (p s : Int) (d : List Int) (hr : rightP p s = true) (hl : d.length = 240) : unpackP (sealedS (bodyS p s d)) = (p, s, d, 0) := by
  have hr' := (rightP_iff p s).1 hr
  have h1 := pageS_sealed p s d (by omega)
  have h2 := seqS_sealed p s d (by omega)
  unfold unpackP
  rw [h1, h2, if_pos ⟨by rw [sealedS_length, bodyS_length]; omega, by rw [sealedS_drop], hr⟩]
  rw [show (sealedS (bodyS p s d)).drop 16 = d by
    rw [show 16 = 4 + 12 from rfl, ← List.drop_drop, sealedS_drop, bodyS, drop_front _ _ 12 (by rw [List.length_append, be_length, be_length])]]
theorem be_take (b : List Int) (hb : IsBytes b) (n : Nat) (h : n ≤ b.length) : be (beval (b.take n)) n = b.take n := by
  have := be_beval (b.take n) (hb.take n)
  rw [List.length_take_of_le h] at this
  exact this
theorem beval_len (b : List Int) (hb : IsBytes b) (n : Nat) (h : b.length = n) : 0 ≤ beval b ∧ beval b < 256 ^ n := by have := beval_bound b hb; rw [h] at this; exact this
theorem body_back (b : List Int) (hb : IsBytes b) (hl : b.length = 256) (hr : rightP (pageS b) (seqS b) = true) : bodyS (pageS b) (seqS b) (b.drop 16) = b.drop 4 := by
  have hr' := (rightP_iff _ _).1 hr
  have e2 : seqS b = beval ((b.drop 8).take 8) := by
    have := beval_len ((b.drop 8).take 8) ((hb.drop 8).take 8) 8 (by rw [List.length_take, List.length_drop]; omega)
    have h2 := hr'.2.2
    unfold seqS at h2 ⊢
    unfold wrap64 at h2 ⊢
    omega
  unfold bodyS
  rw [e2, pageS, be_take _ (hb.drop 4) 4 (by rw [List.length_drop]; omega), be_take _ (hb.drop 8) 8 (by rw [List.length_drop]; omega)]
  rw [List.append_assoc, show b.drop 16 = (b.drop 8).drop 8 by rw [List.drop_drop], List.take_append_drop, show b.drop 8 = (b.drop 4).drop 4 by rw [List.drop_drop], List.take_append_drop]
theorem pack_unpack (b : List Int) (hb : IsBytes b) (h : b.length = 256 ∧ sealedS (b.drop 4) = b ∧ rightP (pageS b) (seqS b) = true) : packP (pageS b) (seqS b) (b.drop 16) = (b, 0) := by
  unfold packP
  rw [if_pos ⟨h.2.2, by rw [List.length_drop]; omega⟩, body_back b hb h.1 h.2.2, h.2.1]
theorem be4_inj {x y : Int} (hx : 0 ≤ x ∧ x < 4294967296) (hy : 0 ≤ y ∧ y < 4294967296) (h : be x 4 = be y 4) : x = y := by
  have := congrArg beval h
  rw [beval_be, beval_be] at this
  omega
theorem sealed_changed (b : List Int) (hb : IsBytes b) (i : Nat) (hi : i < b.length + 4) (v : Int) (hv : 0 ≤ v ∧ v < 256) (hne : rd (sealedS b) i ≠ v) : sealedS (((sealedS b).set i v).drop 4) ≠ (sealedS b).set i v := by
  intro he
  have hlen := sealedS_length b
  have hgi : rd (sealedS b) i = (sealedS b)[i]'(by omega) := by unfold rd; rw [Int.toNat_natCast, List.getD_eq_getElem?_getD, List.getElem?_eq_getElem (by omega)]; rfl
  by_cases h4 : i < 4
  · rw [List.drop_set_of_lt h4, sealedS_drop] at he
    have h1 : ((sealedS b).set i v)[i]'(by rw [List.length_set]; omega) = v := List.getElem_set_self _
    apply hne
    rw [hgi, ← h1]
    congr 1
  · have ht := congrArg (List.take 4) he
    rw [sealedS_take, List.take_set_of_le (by omega), sealedS_take] at ht
    have hd : ((sealedS b).set i v).drop 4 = b.set (i - 4) v := by
      rw [List.drop_set, if_neg h4, sealedS_drop]
    rw [hd] at ht
    have hbs : IsBytes (b.set (i - 4) v) := fun x hx => by
      rcases List.mem_or_eq_of_mem_set hx with h | h
      · exact hb x h
      · rw [h]; exact hv
    have hs := be4_inj (sumI_range _ hbs) (sumI_range _ hb) ht
    have hs2 : sumN 4294967295 b = sumN 4294967295 (b.set (i - 4) v) := (xor_cancel_left (Int.ofNat.inj hs)).symm
    have := sumN_set b hb (i - 4) (by omega) v hv.1 hv.2 (by omega) hs2
    apply hne
    rw [hgi, ← this]
    have hq : (sealedS b)[i]'(by omega) = ((sealedS b).drop 4)[i - 4]'(by rw [sealedS_drop]; omega) := by
      rw [List.getElem_drop]; congr 1; omega
    rw [hq]
    congr 1
theorem zeros_wrong : unpackP (List.replicate 256 0) = (0, 0, [], 4) := by
  unfold unpackP
  rw [if_neg]
  rintro ⟨_, h, _⟩
  have := congrArg (List.take 4) h
  rw [sealedS_take] at this
  revert this
  decide +kernel
theorem sector_awake' (k : Nat) (hk : 4002 < k) : exchequerlaw04_awake.f k = some true := by
  have hp : packP 3 7 (List.replicate 240 0) = (sealedS (bodyS 3 7 (List.replicate 240 0)), 0) := by unfold packP; rw [if_pos ⟨by decide, List.length_replicate⟩]
  refine sector_awake k hk ⟨by rw [hp], ?_, ?_, zeros_wrong⟩ ?_
  · rw [hp, sealedS_length, bodyS_length, List.length_replicate]; rfl
  · rw [hp]; exact unpack_pack 3 7 _ (by decide) List.length_replicate
  · rw [hp]; exact sealedS_bytes (bodyS_bytes _ _ (IsBytes.replicate 240))
theorem ref_srights (p s : Int) : exchequerref04_Right.f p s = some (rightP p s) := by
  unfold exchequerref04_Right.f rightP
  by_cases h1 : 0 ≤ p <;> by_cases h2 : p < 4294967296 <;> by_cases h3 : 0 ≤ s <;> simp [h1, h2, h3]
theorem sealed_iff (b : List Int) (hb : IsBytes b) (hl : b.length = 256) : wrap64 (beval (b.take 4)) = wrap64 (sumI (b.drop 4)) ↔ sealedS (b.drop 4) = b := by
  have h1 := sumI_range (b.drop 4) (hb.drop 4)
  have h2 := beval4 b hb 0
  rw [List.drop_zero] at h2
  rw [show wrap64 (beval (b.take 4)) = beval (b.take 4) by unfold wrap64; omega, show wrap64 (sumI (b.drop 4)) = sumI (b.drop 4) by unfold wrap64; omega]
  constructor
  · intro h
    unfold sealedS
    rw [← h, be_take b hb 4 (by omega), List.take_append_drop]
  · intro h
    have := congrArg (fun l => beval (l.take 4)) h
    simp only [sealedS_take, beval_be] at this
    omega
theorem getS_sum (b : List Int) (hl : b.length = 256) : getS b 0 4 = (wrap64 (beval (b.take 4)), 0) := by
  unfold getS
  rw [if_pos ⟨by decide, by omega⟩, if_pos (by omega)]
  rfl
theorem ref_unpack_tells (k : Nat) (hk : 4001 < k) (b : List Int) (hb : IsBytes b) : exchequerref04_Unpack.f k b = some (unpackP b) := by
  unfold exchequerref04_Unpack.f unpackP
  by_cases hl : b.length = 256
  · rw [if_pos (by omega), ref_get_tells k (by omega) _ hb (by omega) _ _ (by decide), Option.bind_some, getS_sum b hl, ref_get_tells k (by omega) _ hb (by omega) _ _ (by decide), Option.bind_some, getS_page b hb hl, ref_get_tells k (by omega) _ hb (by omega) _ _ (by decide), Option.bind_some, getS_seq b hl, if_pos (by omega),
      refsum_tells k _ (hb.drop 4) (by rw [List.length_drop]; omega) (by rw [List.length_drop]; omega), Option.bind_some]
    by_cases hs : sealedS (b.drop 4) = b
    · rw [if_pos ((sealed_iff b hb hl).2 hs), ref_srights, Option.bind_some]
      by_cases hr : rightP (pageS b) (seqS b) = true
      · rw [if_pos hr, if_pos (by omega), Option.bind_some, if_pos (by rw [List.length_drop]; simp; omega), if_pos ⟨hl, hs, hr⟩, List.nil_append]
      · rw [if_neg hr, if_neg (fun h => hr h.2.2)]
    · rw [if_neg (fun h => hs ((sealed_iff b hb hl).1 h)), if_neg (fun h => hs h.2.1)]
  · rw [if_neg (by omega), if_neg (fun h => hl h.1)]
theorem unpackP_bytes {b : List Int} (h : IsBytes b) : IsBytes (unpackP b).2.2.1 := by
  unfold unpackP
  split
  · exact h.drop 16
  · exact IsBytes.nil
theorem SectorUnpacks : exchequerlaw04_SectorUnpacks.Pure := by
  intro b hd
  have hb := IsBytes.of_wf hd.2
  obtain ⟨k, hk⟩ : ∃ k : Nat, k = 4100 := ⟨_, rfl⟩
  refine ⟨k, ?_⟩
  unfold exchequerlaw04_SectorUnpacks.f
  rw [sector_awake' k (by omega)]
  by_cases h : (b.length : Int) > 1000
  · rw [if_pos h]; rfl
  · rw [if_neg h, sector_unpack_tells k (by omega) _ hb, Option.bind_some, ref_unpack_tells k (by omega) _ hb, Option.bind_some, if_pos rfl, if_pos rfl, bytes_equal_tells _ _ (unpackP_bytes hb) (unpackP_bytes hb), Option.bind_some, if_pos (by simp), if_pos rfl]
    rfl

end Go.Proofs.YtkahpaipciooiaaDoor.Pure

/- The contracts of num.Get and of its reference at four bytes inside, over what is known of memory. -/
import Derived.Test.YtkahpaipciooiaaNum4
namespace Go.Proofs.Ytkahpaipciooiaa.Al
open Go Go.Al Go.Proofs Go.RowKit
set_option maxHeartbeats 8000000
set_option maxRecDepth 100000
set_option linter.unusedVariables false
set_option linter.unusedSimpArgs false
def g4 (l : List UInt8) : Nat := l.foldl (fun n x => n * 256 + x.toNat) 0
theorem or_nat (n : Nat) (x : UInt8) : n * 256 ||| x.toNat = n * 256 + x.toNat := by
  have := Nat.shiftLeft_add_eq_or_of_lt (b := x.toNat) (i := 8) x.toNat_lt n
  rw [Nat.shiftLeft_eq] at this
  exact this.symm
theorem or_u64 (n : Nat) (x : UInt8) (hn : n < 1099511627776) : IntKind.u64.wrap ((BitVec.ofInt IntKind.u64.bits (IntKind.u64.wrap ((n : Int) * 2 ^ min (8 : Int).toNat IntKind.u64.bits)) ||| BitVec.ofInt IntKind.u64.bits (IntKind.u64.wrap (x.toNat : Int))).toNat : Int) = ((n * 256 + x.toNat : Nat) : Int) := by
  have hx := x.toNat_lt
  have e1 : IntKind.u64.wrap ((n : Int) * 2 ^ min (8 : Int).toNat IntKind.u64.bits) = ((n * 256 : Nat) : Int) := by
    simp only [IntKind.wrap, IntKind.signed, IntKind.bits]
    simp
    omega
  have e2 : IntKind.u64.wrap (x.toNat : Int) = (x.toNat : Int) := by
    simp only [IntKind.wrap, IntKind.signed, IntKind.bits]
    simp
    omega
  rw [e1, e2, BitVec.toNat_or, BitVec.ofInt_natCast, BitVec.ofInt_natCast, BitVec.toNat_ofNat, BitVec.toNat_ofNat]
  rw [Nat.mod_eq_of_lt (by show n * 256 < 2 ^ 64; omega), Nat.mod_eq_of_lt (by show x.toNat < 2 ^ 64; omega), or_nat]
  simp only [IntKind.wrap, IntKind.signed, IntKind.bits]
  simp
  omega
theorem or_i64 (n : Nat) (x : UInt8) (hn : n < 1099511627776) : IntKind.i64.wrap ((BitVec.ofInt IntKind.i64.bits (IntKind.i64.wrap ((n : Int) * 2 ^ min (8 : Int).toNat IntKind.i64.bits)) ||| BitVec.ofInt IntKind.i64.bits (IntKind.i64.wrap (x.toNat : Int))).toNat : Int) = ((n * 256 + x.toNat : Nat) : Int) := by
  have hx := x.toNat_lt
  have e1 : IntKind.i64.wrap ((n : Int) * 2 ^ min (8 : Int).toNat IntKind.i64.bits) = ((n * 256 : Nat) : Int) := by
    rw [show ((2 : Int) ^ min (8 : Int).toNat IntKind.i64.bits) = 256 by decide, IntKind.wrap_i64]
    omega
  have e2 : IntKind.i64.wrap (x.toNat : Int) = (x.toNat : Int) := by
    rw [IntKind.wrap_i64]
    omega
  rw [e1, e2, BitVec.toNat_or, BitVec.ofInt_natCast, BitVec.ofInt_natCast, BitVec.toNat_ofNat, BitVec.toNat_ofNat]
  rw [Nat.mod_eq_of_lt (by show n * 256 < 2 ^ 64; omega), Nat.mod_eq_of_lt (by show x.toNat < 2 ^ 64; omega), or_nat, IntKind.wrap_i64]
  omega
theorem g4_step (l : List UInt8) (j : Nat) (x : UInt8) (hx : l[j]? = some x) : g4 (l.take (j + 1)) = g4 (l.take j) * 256 + x.toNat := by
  unfold g4
  rw [List.take_add_one, hx, Option.toList_some, List.foldl_append]
  rfl
theorem g4_lt : ∀ (l : List UInt8), g4 l < 256 ^ l.length := by
  intro l
  have : ∀ (l : List UInt8) (n : Nat), l.foldl (fun n x => n * 256 + x.toNat) n < (n + 1) * 256 ^ l.length := by
    intro l
    induction l with
    | nil => intro n; simp
    | cons x l ih =>
      intro n
      have h := ih (n * 256 + x.toNat)
      have hx := x.toNat_lt
      rw [List.foldl_cons, List.length_cons, Nat.pow_succ]
      refine Nat.lt_of_lt_of_le h ?_
      rw [Nat.mul_comm (256 ^ l.length) 256, ← Nat.mul_assoc]
      exact Nat.mul_le_mul_right _ (by omega)
  have h := this l 0
  rw [Nat.zero_add, Nat.one_mul] at h
  exact h
theorem get (l : List UInt8) (A : Option Addr) (c i : Nat) (F : Heap) (hr : RowAt F A (bytesOf l)) (hl : l.length ≤ 100000) (hc : l.length ≤ c) (hi : i + 4 ≤ l.length) :
    FnK Try.prog 21 #[.slice A l.length c, .int .i64 (i : Int), .int .i64 4] F (fun v F' => v = .tuple #[.int .i64 ((g4 ((l.drop i).take 4) : Nat) : Int), .int .i64 0] ∧ F' = F) := by
  obtain ⟨ad, rfl⟩ := hr.some (by simp [bytesOf]; omega)
  have hcell : ∀ j x, j < 4 → ((l.drop i).take 4)[j]? = some x → F.cell? ((ad.add i).add (j * 1)) = some (.int .u8 (x.toNat : Int)) := by
    intro j x hj hx
    rw [add_add, Nat.mul_one]
    refine hr.cell ?_
    rw [List.getElem?_take, if_pos hj, List.getElem?_drop] at hx
    simp [bytesOf, hx]
  have hlen : ((l.drop i).take 4).length = 4 := by simp; omega
  have hlt : ∀ j, j ≤ 4 → g4 (((l.drop i).take 4).take j) < 4294967296 := by
    intro j hj
    have h := g4_lt (((l.drop i).take 4).take j)
    rw [List.length_take, hlen, Nat.min_eq_left hj] at h
    exact Nat.lt_of_lt_of_le h (Nat.pow_le_pow_right (by decide) hj : 256 ^ j ≤ 256 ^ 4)
  (refine fn_walk tab_ok Try.func21 rfl rfl rfl rfl ?_; (conv => whnf))
  refine call_of (sized4 F) ?_
  rintro v F1 ⟨rfl, rfl⟩
  (conv => whnf)
  refine cond_split (fun _ => ?_) (fun h => absurd (show (!decide ((l.length : Int) < 4)) = false from h) (by simp; omega))
  (conv => whnf)
  refine cond_split (fun h => ?_) (fun _ => ?_)
  · replace h := of_decide_eq_true h
    rw [IntKind.wrap_i64] at h
    omega
  (conv => whnf)
  have hhi : (IntKind.i64.wrap ((i : Int) + 4)) = ((i + 4 : Nat) : Int) := by rw [IntKind.wrap_i64]; omega
  refine ⟨⟨by rw [hhi]; omega, by rw [hhi]; omega⟩, ?_⟩
  (conv => whnf)
  refine ⟨⟨by omega, by rw [hhi]; omega⟩, ?_⟩
  (conv => whnf)
  have hX : (if c = Int.toNat (i : Int) then some ad else (some ad).map (·.add (Int.toNat (i : Int) * 1))) = some (ad.add i) := by
    rw [Int.toNat_natCast, if_neg (by omega), Nat.mul_one]
    rfl
  have hN : (IntKind.i64.wrap ((i : Int) + 4)).toNat - Int.toNat (i : Int) = 4 := by rw [hhi]; omega
  obtain ⟨cp, hcp⟩ : ∃ cp, c - Int.toNat (i : Int) = cp := ⟨_, rfl⟩
  refine loop_slots [8, 35, 36, 37] (fun k vs F2 => ∃ j : Nat, j + k = 4 ∧ vs = [.int .u64 (g4 (((l.drop i).take 4).take j) : Nat), .slice (some (ad.add i)) 4 cp, .int .i64 ((4 : Nat) : Int), .int .i64 (j : Int)] ∧ F2 = F1) 4 ⟨0, by omega, ?_, rfl⟩ ?_
  · show [Value.int .u64 0, Value.slice (if c = Int.toNat (i : Int) then some ad else (some ad).map (·.add (Int.toNat (i : Int) * 1))) ((IntKind.i64.wrap ((i : Int) + 4)).toNat - Int.toNat (i : Int)) (c - Int.toNat (i : Int)), Value.int .i64 (((IntKind.i64.wrap ((i : Int) + 4)).toNat - Int.toNat (i : Int) : Nat) : Int), Value.int .i64 0] = _
    rw [hX, hN, hcp]
    rfl
  rintro k vs F2 ρ ⟨j, hjk, rfl, rfl⟩
  (conv => whnf)
  refine cond_split (fun h => ?_) (fun h => ?_)
  · have hj : j < 4 := by have := of_decide_eq_true h; omega
    obtain ⟨x, hx⟩ : ∃ x, ((l.drop i).take 4)[j]? = some x := ⟨_, List.getElem?_eq_getElem (by rw [hlen]; exact hj)⟩
    have hs := g4_step ((l.drop i).take 4) j x hx
    have hb := or_u64 (g4 (((l.drop i).take 4).take j)) x (by have := hlt j (by omega); omega)
    (conv => whnf)
    refine ⟨⟨by omega, by omega⟩, ?_⟩
    (conv => whnf)
    refine load_step (v := .int .u8 (x.toNat : Int)) ?_ ?_
    · show F2.cell? ((ad.add i).add (Int.toNat (j : Int) * 1)) = _
      rw [Int.toNat_natCast]
      exact hcell j x hj hx
    (conv => whnf)
    refine ⟨by decide, ?_⟩
    (conv => whnf)
    refine ⟨k - 1, by omega, j + 1, by omega, ?_, rfl⟩
    have hw : IntKind.i64.wrap ((j : Int) + 1) = ((j + 1 : Nat) : Int) := by rw [IntKind.wrap_i64]; omega
    rw [← hw, hs, ← hb]
    rfl
  · have hj : j = 4 := by have := of_decide_eq_false h; omega
    subst hj
    have h4 := hlt 4 (by decide)
    rw [show ((l.drop i).take 4).take 4 = (l.drop i).take 4 by rw [List.take_take]; rfl] at h4 ⊢
    generalize g4 ((l.drop i).take 4) = m at h4 ⊢
    (conv => whnf)
    refine ⟨?_, rfl⟩
    show Value.tuple #[.int .i64 (IntKind.i64.wrap (m : Int)), .int .i64 0] = _
    rw [show IntKind.i64.wrap (m : Int) = (m : Int) by rw [IntKind.wrap_i64]; omega]
theorem rget (l : List UInt8) (A : Option Addr) (c i : Nat) (F : Heap) (hr : RowAt F A (bytesOf l)) (hl : l.length ≤ 100000) (hc : l.length ≤ c) (hi : i + 4 ≤ l.length) :
    FnK Try.prog 15 #[.slice A l.length c, .int .i64 (i : Int), .int .i64 4] F (fun v F' => v = .tuple #[.int .i64 ((g4 ((l.drop i).take 4) : Nat) : Int), .int .i64 0] ∧ F' = F) := by
  obtain ⟨ad, rfl⟩ := hr.some (by simp [bytesOf]; omega)
  have hcell : ∀ j x, j < 4 → ((l.drop i).take 4)[j]? = some x → F.cell? (ad.add ((i + j) * 1)) = some (.int .u8 (x.toNat : Int)) := by
    intro j x hj hx
    rw [Nat.mul_one]
    refine hr.cell ?_
    rw [List.getElem?_take, if_pos hj, List.getElem?_drop] at hx
    simp [bytesOf, hx]
  have hlen : ((l.drop i).take 4).length = 4 := by simp; omega
  have hlt : ∀ j, j ≤ 4 → g4 (((l.drop i).take 4).take j) < 4294967296 := by
    intro j hj
    have h := g4_lt (((l.drop i).take 4).take j)
    rw [List.length_take, hlen, Nat.min_eq_left hj] at h
    exact Nat.lt_of_lt_of_le h (Nat.pow_le_pow_right (by decide) hj : 256 ^ j ≤ 256 ^ 4)
  (refine fn_walk tab_ok Try.func15 rfl rfl rfl rfl ?_; (conv => whnf))
  refine call_of (rsized4 F) ?_
  rintro v F1 ⟨rfl, rfl⟩
  (conv => whnf)
  refine cond_split (fun h => ?_) (fun _ => ?_)
  · replace h := of_decide_eq_true h
    rw [IntKind.wrap_i64] at h
    omega
  (conv => whnf)
  refine loop_slots [0, 1, 2, 8, 9] (fun k vs F2 => ∃ j : Nat, j + k = 4 ∧ vs = [.slice (some ad) l.length c, .int .i64 (i : Int), .int .i64 4, .int .i64 (g4 (((l.drop i).take 4).take j) : Nat), .int .i64 (j : Int)] ∧ F2 = F1) 4 ⟨0, by omega, rfl, rfl⟩ ?_
  rintro k vs F2 ρ ⟨j, hjk, rfl, rfl⟩
  (conv => whnf)
  refine cond_split (fun h => ?_) (fun h => ?_)
  · have hj : j < 4 := by have := of_decide_eq_true h; omega
    obtain ⟨x, hx⟩ : ∃ x, ((l.drop i).take 4)[j]? = some x := ⟨_, List.getElem?_eq_getElem (by rw [hlen]; exact hj)⟩
    have hs := g4_step ((l.drop i).take 4) j x hx
    have hb := or_i64 (g4 (((l.drop i).take 4).take j)) x (by have := hlt j (by omega); omega)
    have hij : IntKind.i64.wrap ((i : Int) + (j : Int)) = ((i + j : Nat) : Int) := by rw [IntKind.wrap_i64]; omega
    (conv => whnf)
    refine ⟨by decide, ?_⟩
    (conv => whnf)
    refine ⟨⟨by rw [hij]; omega, by rw [hij]; omega⟩, ?_⟩
    (conv => whnf)
    refine load_step (v := .int .u8 (x.toNat : Int)) ?_ ?_
    · show F2.cell? (ad.add (Int.toNat (IntKind.i64.wrap ((i : Int) + (j : Int))) * 1)) = _
      rw [hij, Int.toNat_natCast]
      exact hcell j x hj hx
    (conv => whnf)
    refine ⟨k - 1, by omega, j + 1, by omega, ?_, rfl⟩
    have hw : IntKind.i64.wrap ((j : Int) + 1) = ((j + 1 : Nat) : Int) := by rw [IntKind.wrap_i64]; omega
    rw [← hw, hs, ← hb]
    rfl
  · have hj : j = 4 := by have := of_decide_eq_false h; omega
    subst hj
    rw [show ((l.drop i).take 4).take 4 = (l.drop i).take 4 by rw [List.take_take]; rfl]
    generalize g4 ((l.drop i).take 4) = m
    (conv => whnf)
    exact ⟨rfl, rfl⟩
theorem word (l : List UInt8) (A : Option Addr) (c i : Nat) (F : Heap) (hr : RowAt F A (bytesOf l)) (hl : l.length ≤ 100000) (hc : l.length ≤ c) (hi : i + 4 ≤ l.length) :
    FnK Try.prog 14 #[.slice A l.length c, .int .i64 (i : Int)] F (fun v F' => v = .int .i64 ((g4 ((l.drop i).take 4) : Nat) : Int) ∧ F' = F) := by
  have hg := get l A c i F hr hl hc hi
  (refine fn_walk tab_ok Try.func14 rfl rfl rfl rfl ?_; (conv => whnf))
  refine call_of hg ?_
  rintro v F1 ⟨rfl, rfl⟩
  (conv => whnf)
  exact ⟨rfl, rfl⟩
end Go.Proofs.Ytkahpaipciooiaa.Al

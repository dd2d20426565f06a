/- The contracts of the reference's digits and Text, over what is known of memory. -/
import Derived.Test.YtkahpaipciooiabText
import Derived.Test.YtkahpaipciooiabAlOpen
namespace Go.Proofs.Ytkahpaipciooiab.Al
open Go Go.Al Go.Proofs Go.RowKit
set_option maxHeartbeats 8000000
set_option maxRecDepth 100000
set_option linter.unusedVariables false
set_option linter.unusedSimpArgs false
theorem digit_str (m : Nat) : ∃ h : m % 10 < 10, (⟨#[48, 49, 50, 51, 52, 53, 54, 55, 56, 57]⟩ : ByteArray).extract (m % 10) (m % 10 + 1) = ⟨#[UInt8.ofNat (48 + m % 10)]⟩ := by
  have h : m % 10 < 10 := Nat.mod_lt _ (by decide)
  refine ⟨h, ?_⟩
  generalize m % 10 = d at h
  obtain rfl | rfl | rfl | rfl | rfl | rfl | rfl | rfl | rfl | rfl : d = 0 ∨ d = 1 ∨ d = 2 ∨ d = 3 ∨ d = 4 ∨ d = 5 ∨ d = 6 ∨ d = 7 ∨ d = 8 ∨ d = 9 := by omega
  all_goals decide +kernel
theorem str_app (a b : List UInt8) : ((⟨a.toArray⟩ : ByteArray) ++ ⟨b.toArray⟩) = ⟨(a ++ b).toArray⟩ := by
  apply ByteArray.ext
  simp
theorem digits (m : Nat) (hm : m ≤ 9223372036854775807) : ∀ F : Heap, FnK Try.prog 85 #[.int .i64 (m : Int)] F (fun v F' => v = .string ⟨(digsR m).reverse.toArray⟩ ∧ F' = F) := by
  induction m using Nat.strongRecOn with
  | _ m ih =>
    intro F
    obtain ⟨hd, hstr⟩ := digit_str m
    have hrem : ((m : Int)).tmod 10 = ((m % 10 : Nat) : Int) := by rw [Int.tmod_eq_emod_of_nonneg (by omega)]; rfl
    have hq : IntKind.i64.wrap (((m : Int)).tdiv 10) = ((m / 10 : Nat) : Int) := by rw [Int.tdiv_eq_ediv_of_nonneg (by omega), IntKind.wrap_i64]; omega
    have hw : IntKind.i64.wrap ((m : Int).tmod 10 + 1) = ((m % 10 + 1 : Nat) : Int) := by rw [hrem, IntKind.wrap_i64]; omega
    have hcut : (⟨#[48, 49, 50, 51, 52, 53, 54, 55, 56, 57]⟩ : ByteArray).extract ((m : Int).tmod 10).toNat (IntKind.i64.wrap ((m : Int).tmod 10 + 1)).toNat = ⟨[UInt8.ofNat (48 + m % 10)].toArray⟩ := by rw [hw, hrem, Int.toNat_natCast, Int.toNat_natCast, hstr]
    (refine fn_walk tab_ok Try.func85 rfl rfl rfl rfl ?_; (conv => whnf))
    refine ⟨by decide, ?_⟩
    (conv => whnf)
    refine ⟨by decide, ?_⟩
    (conv => whnf)
    refine ⟨⟨by rw [hw]; omega, by rw [hw]; show ((m % 10 + 1 : Nat) : Int) ≤ 10; omega⟩, ?_⟩
    (conv => whnf)
    refine ⟨⟨by rw [hrem]; omega, by rw [hw, hrem, Int.toNat_natCast]; omega⟩, ?_⟩
    (conv => whnf)
    refine cond_split (fun h => ?_) (fun h => ?_)
    · have h10 : 10 ≤ m := by have := of_decide_eq_true h; omega
      (conv => whnf)
      refine ⟨by decide, ?_⟩
      (conv => whnf)
      have hc := ih (m / 10) (by omega) (by omega) F
      rw [← hq] at hc
      refine call_of hc ?_
      rintro v _ ⟨rfl, rfl⟩
      (conv => whnf)
      have hlen := digsR_log 18 (m / 10) (by omega)
      refine ⟨?_, ?_⟩
      · rw [hcut]
        show (((digsR (m / 10)).reverse.toArray.size + 1 : Nat) : Int) ≤ _
        simp only [List.size_toArray, List.length_reverse]
        omega
      · (conv => whnf)
        refine ⟨?_, rfl⟩
        show Value.string (_ ++ _) = _
        rw [hcut]
        have e2 : digsR m = UInt8.ofNat (48 + m % 10) :: digsR (m / 10) := by rw [digsR_step m, if_neg (by omega)]
        rw [e2, List.reverse_cons, ← str_app]
    · have h10 : m < 10 := by have := of_decide_eq_false h; omega
      (conv => whnf)
      refine ⟨?_, rfl⟩
      show Value.string _ = _
      rw [hcut, digsR_step m, if_pos (by omega)]
      rfl
/-- A number in digits, by the reference. -/
theorem rtext (n : Int) (h0 : -9223372036854775808 ≤ n) (h1 : n < 9223372036854775808) (F : Heap) : FnK Try.prog 70 #[.int .i64 n] F (fun v F' => v = .string ⟨(txt n).toArray⟩ ∧ F' = F) := by
  by_cases hn : n < 0
  · obtain ⟨m, rfl⟩ : ∃ m : Nat, n = -(m : Int) := ⟨n.natAbs, by omega⟩
    have htxt : txt (-(m : Int)) = 45 :: (digsR m).reverse := by unfold txt; rw [if_pos hn, Int.natAbs_neg, Int.natAbs_natCast]
    have hneg : m < 10 → IntKind.i64.wrap (0 - -(m : Int)) = (m : Int) := fun h => by rw [IntKind.wrap_i64]; omega
    have hq : IntKind.i64.wrap (0 - IntKind.i64.wrap ((-(m : Int)).tdiv 10)) = ((m / 10 : Nat) : Int) := by rw [div_val m (by omega), IntKind.wrap_i64]; omega
    have hr : IntKind.i64.wrap (0 - (-(m : Int)).tmod 10) = ((m % 10 : Nat) : Int) := by rw [tmod_neg, IntKind.wrap_i64]; omega
    (refine fn_walk tab_ok Try.func70 rfl rfl rfl rfl ?_; (conv => whnf))
    refine cond_split (fun h => by have := of_decide_eq_true h; omega) (fun _ => ?_)
    (conv => whnf)
    refine cond_split (fun h => ?_) (fun h => ?_)
    · have hm : m < 10 := by have := of_decide_eq_true h; omega
      have hc := digits m (by omega) F
      rw [← hneg hm] at hc
      (conv => whnf)
      refine call_of hc ?_
      rintro v _ ⟨rfl, rfl⟩
      (conv => whnf)
      have hlen := digsR_log 18 m (by omega)
      refine ⟨?_, ?_⟩
      · show ((1 + (digsR m).reverse.toArray.size : Nat) : Int) ≤ _
        simp only [List.size_toArray, List.length_reverse]
        omega
      · (conv => whnf)
        refine ⟨?_, rfl⟩
        rw [htxt]
        show Value.string (_ ++ _) = _
        exact congrArg Value.string (str_app [45] _)
    · have hm : 10 ≤ m := by have := of_decide_eq_false h; omega
      have hc := digits (m / 10) (by omega) F
      have hd := digits (m % 10) (by omega) F
      rw [← hq] at hc
      rw [← hr] at hd
      (conv => whnf)
      refine ⟨by decide, ?_⟩
      (conv => whnf)
      refine call_of hc ?_
      rintro v _ ⟨rfl, rfl⟩
      (conv => whnf)
      have hlen := digsR_log 18 (m / 10) (by omega)
      have hlen2 := digsR_log 0 (m % 10) (by omega)
      refine ⟨?_, ?_⟩
      · show ((1 + (digsR (m / 10)).reverse.toArray.size : Nat) : Int) ≤ _
        simp only [List.size_toArray, List.length_reverse]
        omega
      · (conv => whnf)
        refine ⟨by decide, ?_⟩
        (conv => whnf)
        refine call_of hd ?_
        rintro v _ ⟨rfl, rfl⟩
        (conv => whnf)
        have e1 : ((⟨#[45]⟩ : ByteArray) ++ ⟨(digsR (m / 10)).reverse.toArray⟩) = ⟨(45 :: (digsR (m / 10)).reverse).toArray⟩ := str_app [45] _
        refine ⟨?_, ?_⟩
        · rw [e1]
          show (((45 :: (digsR (m / 10)).reverse).toArray.size + (digsR (m % 10)).reverse.toArray.size : Nat) : Int) ≤ _
          simp only [List.size_toArray, List.length_cons, List.length_reverse]
          omega
        · (conv => whnf)
          refine ⟨?_, rfl⟩
          rw [htxt]
          show Value.string ((_ ++ _) ++ _) = _
          rw [e1, str_app]
          have e2 : digsR m = UInt8.ofNat (48 + m % 10) :: digsR (m / 10) := by rw [digsR_step m, if_neg (by omega)]
          have e3 : digsR (m % 10) = [UInt8.ofNat (48 + m % 10)] := by rw [digsR_step (m % 10), if_pos (by omega), Nat.mod_mod]
          rw [e2, e3]
          simp
  · obtain ⟨m, rfl⟩ : ∃ m : Nat, n = (m : Int) := ⟨n.natAbs, by omega⟩
    have htxt : txt (m : Int) = (digsR m).reverse := by unfold txt; rw [if_neg hn, Int.natAbs_natCast]
    (refine fn_walk tab_ok Try.func70 rfl rfl rfl rfl ?_; (conv => whnf))
    refine call_of (digits m (by omega) F) ?_
    rintro v _ ⟨rfl, rfl⟩
    (conv => whnf)
    exact ⟨by rw [htxt]; rfl, rfl⟩
end Go.Proofs.Ytkahpaipciooiab.Al

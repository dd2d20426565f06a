/- The contracts of amount.reverse and amount.Text, over what is known of memory. -/
import Derived.Test.YtkahpaipciooiabBld
namespace Go.Proofs.Ytkahpaipciooiab.Al
open Go Go.Al Go.Proofs Go.RowKit
set_option maxHeartbeats 8000000
set_option maxRecDepth 100000
set_option linter.unusedVariables false
set_option linter.unusedSimpArgs false
/-- The digits of a number, the last one first. -/
def digsR (m : Nat) : List UInt8 := if h : m < 10 then [UInt8.ofNat (48 + m)] else UInt8.ofNat (48 + m % 10) :: digsR (m / 10)
  termination_by m
  decreasing_by omega
theorem digsR_step (m : Nat) : digsR m = UInt8.ofNat (48 + m % 10) :: (if m / 10 = 0 then [] else digsR (m / 10)) := by
  rw [digsR]
  split
  · next h => rw [if_pos (by omega), Nat.mod_eq_of_lt h]
  · next h => rw [if_neg (by omega)]
theorem digsR_len (m : Nat) : 0 < (digsR m).length := by rw [digsR_step]; simp
theorem digsR_le (m : Nat) : (digsR m).length ≤ m + 1 := by
  induction m using Nat.strongRecOn with
  | _ m ih =>
    rw [digsR_step]
    split
    · simp
    · have := ih (m / 10) (by omega)
      simp only [List.length_cons]
      omega
theorem digsR_log (k m : Nat) (h : m < 10 ^ (k + 1)) : (digsR m).length ≤ k + 1 := by
  induction k generalizing m with
  | zero => rw [digsR_step, if_pos (by omega)]; simp
  | succ k ih =>
    rw [digsR_step]
    split
    · simp
    · have := ih (m / 10) (by rw [Nat.pow_succ] at h; omega)
      simp only [List.length_cons]
      omega
theorem tmod_neg (k : Nat) : (-(k : Int)).tmod 10 = -((k % 10 : Nat) : Int) := by rw [Int.neg_tmod, Int.tmod_eq_emod_of_nonneg (by omega)]; rfl
theorem tdiv_neg (k : Nat) : (-(k : Int)).tdiv 10 = -((k / 10 : Nat) : Int) := by rw [Int.neg_tdiv, Int.tdiv_eq_ediv_of_nonneg (by omega)]; rfl
theorem digit_val (k : Nat) : IntKind.u8.wrap (IntKind.i64.wrap (48 - (-(k : Int)).tmod 10)) = ((UInt8.ofNat (48 + k % 10)).toNat : Int) := by
  rw [tmod_neg]
  have h : k % 10 < 10 := Nat.mod_lt _ (by decide)
  generalize k % 10 = d at h
  have h2 : (UInt8.ofNat (48 + d)).toNat = 48 + d := by rw [UInt8.toNat_ofNat']; omega
  rw [h2]
  obtain rfl | rfl | rfl | rfl | rfl | rfl | rfl | rfl | rfl | rfl : d = 0 ∨ d = 1 ∨ d = 2 ∨ d = 3 ∨ d = 4 ∨ d = 5 ∨ d = 6 ∨ d = 7 ∨ d = 8 ∨ d = 9 := by omega
  all_goals decide
theorem div_val (k : Nat) (hk : k ≤ 9223372036854775808) : IntKind.i64.wrap ((-(k : Int)).tdiv 10) = -((k / 10 : Nat) : Int) := by
  rw [tdiv_neg, IntKind.wrap_i64]
  omega
theorem reverse (m : Nat) (hm : m ≤ 9223372036854775808) (F : Heap) : FnK Try.prog 84 #[.int .i64 (-(m : Int))] F (fun r F' => Mine F F' r 5 1 (digsR m).length (cellsOf (digsR m))) := by
  (refine fn_walk tab_ok Try.func84 rfl rfl rfl rfl ?_; (conv => whnf))
  refine ⟨by decide, ?_⟩
  (conv => whnf)
  refine new_step (.cells #[.int .u8 ((UInt8.ofNat (48 + m % 10)).toNat : Int)] 5) (by rw [← digit_val]; rfl) fun g hg => ?_
  (conv => whnf)
  refine ⟨by decide, ?_⟩
  (conv => whnf)
  refine loop_slots [0, 3] (fun k vs F' => ∃ s acc, vs = [.int .i64 (-(k : Int)), s] ∧ Mine F F' s 5 1 acc.length (cellsOf acc) ∧ acc ++ (if k = 0 then [] else digsR k) = digsR m ∧ k ≤ 922337203685477580) (m / 10) ?_ ?_
  · refine ⟨.slice (some ⟨g, 0, none⟩) 1 1, [UInt8.ofNat (48 + m % 10)], ?_, mine_new (Ext.refl F) hg rfl, (digsR_step m).symm, by omega⟩
    rw [← div_val m hm]
    rfl
  · rintro k vs F' ρ ⟨s, acc, rfl, hs, hacc, hk⟩
    have hlen : (acc ++ if k = 0 then [] else digsR k).length ≤ 19 := by
      rw [hacc]
      have := digsR_log 18 m (by omega)
      omega
    rw [List.length_append] at hlen
    (conv => whnf)
    refine cond_split (fun h => ?_) (fun h => ?_)
    · have hk0 : k ≠ 0 := by rintro rfl; simp at h
      rw [if_neg hk0] at hacc
      (conv => whnf)
      refine ⟨by decide, ?_⟩
      (conv => whnf)
      refine new_step (.cells #[.int .u8 ((UInt8.ofNat (48 + k % 10)).toNat : Int)] 5) (by rw [← digit_val]; rfl) fun g' hg' => ?_
      (conv => whnf)
      refine append_mine tab_ok rfl rfl rfl rfl rfl ⟨_, rfl, fun k h => by cases h⟩ ⟨_, rfl, rfl⟩ (by decide) (s := s) (y := .slice (some ⟨g', 0, none⟩) 1 1) (n := acc.length) (m := 1) (xs := cellsOf acc) (ys := [.int .u8 ((UInt8.ofNat (48 + k % 10)).toNat : Int)])
        (hs.mono (Ext.new hg' _)) ⟨rfl, .inl ⟨_, _, rfl, fun j u hj => ⟨_, rfl, ?_⟩⟩⟩ (fun u hu => by rw [List.mem_singleton.1 hu]; rfl) (by show 2 * (acc.length + 1) * 1 ≤ _; omega) fun s' F2 h1 h2 => ?_
      · rw [add_plain, Heap.cell_at (Heap.put_same _ _ _)]
        cases j with
        | zero => simpa using hj
        | succ j => simp at hj
      · (conv => whnf)
        refine ⟨by decide, ?_⟩
        (conv => whnf)
        refine ⟨k / 10, by omega, s', acc ++ [UInt8.ofNat (48 + k % 10)], ?_, ?_, ?_, by omega⟩
        · rw [← div_val k (by omega)]
          rfl
        · have e1 : cellsOf (acc ++ [UInt8.ofNat (48 + k % 10)]) = cellsOf acc ++ [.int .u8 ((UInt8.ofNat (48 + k % 10)).toNat : Int)] := by simp [cellsOf]
          rw [e1, List.length_append]
          exact h1
        · rw [← hacc, digsR_step k, List.append_assoc]
          rfl
    · have hk0 : k = 0 := by simpa using h
      subst hk0
      rw [if_pos rfl, List.append_nil] at hacc
      subst hacc
      (conv => whnf)
      exact hs
/-- A number in digits. -/
def txt (n : Int) : List UInt8 := if n < 0 then 45 :: (digsR n.natAbs).reverse else (digsR n.natAbs).reverse
/-- The rest of Text: the digits, the last one first, and the string. -/
theorem take_rev (ds : List UInt8) (j : Nat) (hj : j < ds.length) (x : UInt8) (hx : ds[ds.length - 1 - j]? = some x) : ds.reverse.take (j + 1) = ds.reverse.take j ++ [x] := by
  rw [List.take_add_one]
  congr 1
  rw [List.getElem?_reverse hj, hx]
  rfl
/-- A builder of the call's own that holds pre, beside a row of the call's own. -/
structure St (F F1 : Heap) (b : Nat) (pre : List UInt8) (sl : Value) (ds : List UInt8) : Prop where
  ext : Ext F F1
  fresh : F b = none
  own : ∃ p v, F1 b = some (.cells #[.pointer p, v] 106) ∧ (p = none ∨ p = some ⟨b, 0, none⟩) ∧ Own F1 v 5 1 pre.length (cellsOf pre) ∧ blk v ≠ some b ∧ (∀ k, blk v = some k → F k = none ∧ blk sl ≠ some k)
  row : Own F1 sl 5 1 ds.length (cellsOf ds)
  other : blk sl ≠ some b
theorem own_blk {F : Heap} {s : Value} {e z n : Nat} {vs : List Value} (h : Own F s e z n vs) {k : Nat} (hk : blk s = some k) : ∃ o, F k = some o := by
  rcases h.2 with ⟨rfl, _⟩ | ⟨b, c, cs, rfl, hb, _⟩
  · cases hk
  · obtain rfl : b = k := Option.some.inj hk
    exact ⟨_, hb⟩
theorem write (F F1 : Heap) (b : Nat) (pre : List UInt8) (sl : Value) (ds : List UInt8) (x : UInt8) (c : Int) (hc : c = (x.toNat : Int)) (h : St F F1 b pre sl ds) (hl : pre.length ≤ 1099511627776) :
    FnK Try.prog 83 #[.pointer (some ⟨b, 0, none⟩), .int .u8 c] F1 (fun r F2 => r = .nilIface ∧ St F F2 b (pre ++ [x]) sl ds) := by
  subst hc
  obtain ⟨p, v, h1, h2, h3, h4, h5⟩ := h.own
  refine (writeByte F1 b p v pre.length (cellsOf pre) _ h2 h1 h3 h4 hl).mono ?_
  rintro r F2 ⟨rfl, v', g1, g2, g3, g4, g5⟩
  have e1 : cellsOf (pre ++ [x]) = cellsOf pre ++ [.int .u8 x.toNat] := by simp [cellsOf]
  refine ⟨rfl, fun k o hk => ?_, h.fresh, ⟨_, v', g1, .inr rfl, by rw [e1, List.length_append]; exact g2, g3, fun k hk => ?_⟩, h.row.of_blk fun k o hk ho => ?_, h.other⟩
  · refine g4 k o (h.ext k o hk) (fun e => ?_) fun e => ?_
    · rw [e, h.fresh] at hk; cases hk
    · rw [(h5 k e).1] at hk; cases hk
  · rcases g5 k hk with e | e
    · exact h5 k e
    · refine ⟨?_, fun hs => ?_⟩
      · cases e0 : F k with
        | none => rfl
        | some o => rw [h.ext k o e0] at e; cases e
      · obtain ⟨o, ho⟩ := own_blk h.row hs
        rw [e] at ho; cases ho
  · exact g4 k o ho (fun e => h.other (by rw [hk, e])) fun e => (h5 k e).2 hk
theorem St.rev {F F1 F2 : Heap} {b : Nat} {pre ds : List UInt8} {sl : Value} (h : St F F1 b pre (.slice none 0 0) []) (hm : Mine F1 F2 sl 5 1 ds.length (cellsOf ds)) : St F F2 b pre sl ds := by
  obtain ⟨p, v, h1, h2, h3, h4, h5⟩ := h.own
  refine ⟨h.ext.trans hm.ext, h.fresh, ⟨p, v, hm.ext _ _ h1, h2, h3.of_blk fun k o _ ho => hm.ext _ _ ho, h4, fun k hk => ⟨(h5 k hk).1, fun hs => ?_⟩⟩, hm.own, fun hs => ?_⟩
  · obtain ⟨o, ho⟩ := own_blk h3 hk
    rw [hm.fresh k hs] at ho; cases ho
  · rw [hm.fresh b hs] at h1; cases h1
theorem text (n : Int) (h0 : -9223372036854775808 ≤ n) (h1 : n < 9223372036854775808) (F : Heap) : FnK Try.prog 69 #[.int .i64 n] F (fun r F' => r = .string ⟨(txt n).toArray⟩ ∧ Ext F F') := by
  obtain ⟨m, hm, hmn⟩ : ∃ m : Nat, m ≤ 9223372036854775808 ∧ n.natAbs = m := ⟨n.natAbs, by omega, rfl⟩
  have hlen : (digsR m).length ≤ 19 := digsR_log 18 m (by omega)
  have hpos := digsR_len m
  (refine fn_walk tab_ok Try.func69 rfl rfl rfl rfl ?_; (conv => whnf))
  refine new_step (.cells #[.pointer none, .slice none 0 0] 106) rfl fun b hb => ?_
  have hst : St F (F.put b (.cells #[.pointer none, .slice none 0 0] 106)) b [] (.slice none 0 0) [] :=
    ⟨Ext.new hb _, hb, ⟨none, _, Heap.put_same _ _ _, .inl rfl, ⟨rfl, .inl ⟨rfl, rfl⟩⟩, by simp [blk], fun k hk => by cases hk⟩, ⟨rfl, .inl ⟨rfl, rfl⟩⟩, by simp [blk]⟩
  (conv => whnf)
  refine cond_split (fun h => ?_) (fun h => ?_)
  · have hn : n < 0 := by simpa using h
    obtain rfl : n = -(m : Int) := by omega
    have htxt : txt (-(m : Int)) = [45] ++ (digsR m).reverse := by unfold txt; rw [if_pos hn, hmn]; rfl
    (conv => whnf)
    refine call_of (write F _ b [] _ [] 45 45 rfl hst (by decide)) ?_
    rintro r F1 ⟨rfl, hst⟩
    (conv => whnf)
    refine call_of (reverse m hm F1) ?_
    rintro sl F2 hsl
    replace hst := hst.rev hsl
    obtain ⟨A, c, rfl, hnc, hrow⟩ := hsl.own.row
    obtain ⟨ad, rfl⟩ := hrow.some (by simpa [cellsOf] using hpos)
    (conv => whnf)
    refine loop_slots [3, 4, 14, 15] (fun k vs F' => ∃ j : Nat, vs = [.pointer (some ⟨b, 0, none⟩), .slice (some ad) (digsR m).length c, .int .i64 ((digsR m).length : Int), .int .i64 (j : Int)] ∧ j + k = (digsR m).length ∧ St F F' b (([45] : List UInt8) ++ (digsR m).reverse.take j) (.slice (some ad) (digsR m).length c) (digsR m)) (digsR m).length ⟨0, rfl, by omega, by simpa using hst⟩ ?_
    rintro k vs F' ρ ⟨j, rfl, hjk, hst⟩
    have hpl : (([45] : List UInt8) ++ (digsR m).reverse.take j).length ≤ 20 := by
      rw [List.length_append, List.length_take, List.length_reverse]
      simp only [List.length_cons, List.length_nil]
      omega
    (conv => whnf)
    refine cond_split (fun h => ?_) (fun h => ?_)
    · have hj : j < (digsR m).length := by have := of_decide_eq_true h; omega
      have hw : IntKind.i64.wrap (IntKind.i64.wrap (((digsR m).length : Int) - 1) - (j : Int)) = (((digsR m).length - 1 - j : Nat) : Int) := by
        rw [IntKind.wrap_i64, IntKind.wrap_i64]
        omega
      obtain ⟨x, hx⟩ : ∃ x, (digsR m)[(digsR m).length - 1 - j]? = some x := ⟨_, List.getElem?_eq_getElem (by omega)⟩
      obtain ⟨A', c', e', _, hrow'⟩ := hst.row.row
      cases e'
      (conv => whnf)
      refine ⟨⟨by rw [hw]; omega, by rw [hw]; omega⟩, ?_⟩
      (conv => whnf)
      refine load_step (v := .int .u8 (x.toNat : Int)) ?_ ?_
      · show F'.cell? (ad.add ((IntKind.i64.wrap (IntKind.i64.wrap (((digsR m).length : Int) - 1) - (j : Int))).toNat * 1)) = _
        rw [hw, Nat.mul_one, Int.toNat_natCast]
        exact hrow'.cell (by simp [cellsOf, hx])
      · (conv => whnf)
        refine call_of (write F _ b _ _ _ x _ rfl hst (by omega)) ?_
        rintro r F3 ⟨rfl, hst⟩
        (conv => whnf)
        refine ⟨k - 1, by omega, j + 1, ?_, by omega, ?_⟩
        · have hw1 : IntKind.i64.wrap ((j : Int) + 1) = ((j + 1 : Nat) : Int) := by rw [IntKind.wrap_i64]; omega
          rw [← hw1]
          rfl
        · rw [take_rev _ j hj x hx, ← List.append_assoc]
          exact hst
    · have hj : j = (digsR m).length := by have := of_decide_eq_false h; omega
      subst hj
      rw [List.take_of_length_le (by simp)] at hst hpl
      obtain ⟨p, v, g1, g2, g3, g4, g5⟩ := hst.own
      (conv => whnf)
      refine call_of (string F' b _ v _ (by simp; try (intro e; rw [e] at hpos; cases hpos)) (by omega) g1 g3 g4) ?_
      rintro r F4 ⟨rfl, hkeep⟩
      (conv => whnf)
      exact ⟨by rw [htxt]; rfl, hkeep.ext hst.ext fun k hk => (g5 k hk).1⟩
  · have hn : ¬ n < 0 := by simpa using h
    obtain rfl : n = (m : Int) := by omega
    have htxt : txt (m : Int) = ([] : List UInt8) ++ (digsR m).reverse := by unfold txt; rw [if_neg hn, hmn]; rfl
    have hneg : IntKind.i64.wrap (0 - (m : Int)) = -(m : Int) := by rw [IntKind.wrap_i64]; omega
    (conv => whnf)
    rw [hneg]
    refine call_of (reverse m hm _) ?_
    rintro sl F2 hsl
    replace hst := hst.rev hsl
    obtain ⟨A, c, rfl, hnc, hrow⟩ := hsl.own.row
    obtain ⟨ad, rfl⟩ := hrow.some (by simpa [cellsOf] using hpos)
    (conv => whnf)
    refine loop_slots [3, 4, 14, 15] (fun k vs F' => ∃ j : Nat, vs = [.pointer (some ⟨b, 0, none⟩), .slice (some ad) (digsR m).length c, .int .i64 ((digsR m).length : Int), .int .i64 (j : Int)] ∧ j + k = (digsR m).length ∧ St F F' b (([] : List UInt8) ++ (digsR m).reverse.take j) (.slice (some ad) (digsR m).length c) (digsR m)) (digsR m).length ⟨0, rfl, by omega, by simpa using hst⟩ ?_
    rintro k vs F' ρ ⟨j, rfl, hjk, hst⟩
    have hpl : (([] : List UInt8) ++ (digsR m).reverse.take j).length ≤ 20 := by
      rw [List.length_append, List.length_take, List.length_reverse]
      simp only [List.length_cons, List.length_nil]
      omega
    (conv => whnf)
    refine cond_split (fun h => ?_) (fun h => ?_)
    · have hj : j < (digsR m).length := by have := of_decide_eq_true h; omega
      have hw : IntKind.i64.wrap (IntKind.i64.wrap (((digsR m).length : Int) - 1) - (j : Int)) = (((digsR m).length - 1 - j : Nat) : Int) := by
        rw [IntKind.wrap_i64, IntKind.wrap_i64]
        omega
      obtain ⟨x, hx⟩ : ∃ x, (digsR m)[(digsR m).length - 1 - j]? = some x := ⟨_, List.getElem?_eq_getElem (by omega)⟩
      obtain ⟨A', c', e', _, hrow'⟩ := hst.row.row
      cases e'
      (conv => whnf)
      refine ⟨⟨by rw [hw]; omega, by rw [hw]; omega⟩, ?_⟩
      (conv => whnf)
      refine load_step (v := .int .u8 (x.toNat : Int)) ?_ ?_
      · show F'.cell? (ad.add ((IntKind.i64.wrap (IntKind.i64.wrap (((digsR m).length : Int) - 1) - (j : Int))).toNat * 1)) = _
        rw [hw, Nat.mul_one, Int.toNat_natCast]
        exact hrow'.cell (by simp [cellsOf, hx])
      · (conv => whnf)
        refine call_of (write F _ b _ _ _ x _ rfl hst (by omega)) ?_
        rintro r F3 ⟨rfl, hst⟩
        (conv => whnf)
        refine ⟨k - 1, by omega, j + 1, ?_, by omega, ?_⟩
        · have hw1 : IntKind.i64.wrap ((j : Int) + 1) = ((j + 1 : Nat) : Int) := by rw [IntKind.wrap_i64]; omega
          rw [← hw1]
          rfl
        · rw [take_rev _ j hj x hx, ← List.append_assoc]
          exact hst
    · have hj : j = (digsR m).length := by have := of_decide_eq_false h; omega
      subst hj
      rw [List.take_of_length_le (by simp)] at hst hpl
      obtain ⟨p, v, g1, g2, g3, g4, g5⟩ := hst.own
      (conv => whnf)
      refine call_of (string F' b _ v _ (by simp; try (intro e; rw [e] at hpos; cases hpos)) (by omega) g1 g3 g4) ?_
      rintro r F4 ⟨rfl, hkeep⟩
      (conv => whnf)
      exact ⟨by rw [htxt]; rfl, hkeep.ext hst.ext fun k hk => (g5 k hk).1⟩
end Go.Proofs.Ytkahpaipciooiab.Al

/- Rows of pairs that are cut, and stored into; exchequerref12.Put. -/
import Derived.Test.YtlkdbmoocajjlaaDfC
namespace Go.Proofs.Ytlkdbmoocajjlaa.Al
open Go Go.Al Go.Proofs Go.RowKit
set_option maxHeartbeats 8000000
set_option maxRecDepth 100000
set_option linter.unusedVariables false
set_option linter.unusedSimpArgs false
theorem prsV_append (a b : List PR) : prsV (a ++ b) = prsV a ++ prsV b := by unfold prsV; rw [List.flatMap_append]
theorem prsV_cons (r : PR) (a : List PR) : prsV (r :: a) = (prA r).toList ++ prsV a := by unfold prsV; rw [List.flatMap_cons]
theorem prsV_split (rs : List PR) (k : Nat) : prsV rs = prsV (rs.take k) ++ prsV (rs.drop k) := by rw [← prsV_append, List.take_append_drop]
theorem prsV_drop (rs : List PR) (k : Nat) (h : k ≤ rs.length) : (prsV rs).drop (k * 2) = prsV (rs.drop k) := by
  rw [prsV_split rs k]
  exact List.drop_left' (by rw [prsV_len, List.length_take, Nat.min_eq_left h])
theorem prsV_take (rs : List PR) (k : Nat) (h : k ≤ rs.length) : (prsV rs).take (k * 2) = prsV (rs.take k) := by
  rw [prsV_split rs k]
  exact List.take_left' (by rw [prsV_len, List.length_take, Nat.min_eq_left h])
theorem row_cutP {F : Heap} {A : Option Addr} {rs : List PR} (lo n m : Nat) (hr : RowAt F A (prsV rs)) (hm : lo + n ≤ m) (hle : lo + n ≤ rs.length) : RowAt F (if m = lo then A else A.map (·.add (lo * 2))) (prsV ((rs.drop lo).take n)) := by
  by_cases h0 : n = 0
  · subst h0
    rw [List.take_zero]
    exact RowAt.nil _ _
  · obtain ⟨ad, rfl⟩ := hr.some (by rw [prsV_len]; omega)
    rw [if_neg (by omega), ← prsV_take _ _ (by rw [List.length_drop]; omega), ← prsV_drop _ _ (by omega)]
    exact (hr.drop (lo * 2)).take _
theorem put_pair (rs : List PR) (j : Nat) (r : PR) (T : List Value) (hj : j < rs.length) : putL (prsV rs ++ T) (j * 2) (prA r).toList = prsV (rs.set j r) ++ T := by
  have hl : (prA r).toList.length = 2 := rfl
  have e : prsV rs = prsV (rs.take j) ++ ((prA rs[j]).toList ++ prsV (rs.drop (j + 1))) := by
    rw [← prsV_cons, ← prsV_append, ← List.drop_eq_getElem_cons hj, List.take_append_drop]
  have hlt : (prsV (rs.take j)).length = j * 2 := by rw [prsV_len, List.length_take, Nat.min_eq_left (by omega)]
  rw [putL_eq _ _ _ (by rw [hl, List.length_append, prsV_len]; omega), List.set_eq_take_append_cons_drop, if_pos hj, prsV_append, prsV_cons, e, List.append_assoc, List.append_assoc]
  rw [List.take_left' hlt, hl, show j * 2 + 2 = j * 2 + (prA rs[j]).toList.length from rfl, ← List.drop_drop, List.drop_left' hlt, List.append_assoc, List.drop_left' rfl, List.append_assoc]
/-- A pair is stored into a row of one's own. -/
theorem own_set {F : Heap} {b n c : Nat} {rs : List PR} (h : Own F (.slice (some ⟨b, 0, none⟩) n c) 75 2 n (prsV rs)) {j : Nat} (hj : j < rs.length) {a : Addr} (ha : a = ⟨b, j * 2, none⟩) (r : PR) {vs : List Value} (hvs : vs = (prA r).toList) {K : Value → Heap → Prop}
    (hk : ∀ F', Own F' (.slice (some ⟨b, 0, none⟩) n c) 75 2 n (prsV (rs.set j r)) → Keeps F F' (some b) → K undef F') : StoreK F a vs K := by
  subst hvs
  obtain ⟨h1, h2⟩ := h
  rcases h2 with ⟨h2, h3⟩ | ⟨b', c', cs, h2, ⟨fz, hb, hz⟩, hsz, hnc, ht⟩
  · cases h2
  · cases h2
    rw [prsV_len] at h1
    have hcs : cs.toList = prsV rs ++ cs.toList.drop (n * 2) := by rw [← ht, List.take_append_drop]
    have hlen : cs.toList.length = c * 2 := by rw [Array.length_toList]; exact hsz
    have hcn : n * 2 ≤ c * 2 := Nat.mul_le_mul_right 2 hnc
    refine store_step b (j * 2) cs _ ha hb rfl (Nat.ble_eq_true_of_le (by rw [hsz]; show j * 2 + 2 ≤ _; omega)) (hz.imp id fun h => by show j * 2 + 2 ≤ _; omega) (pr_one r) ?_
    have hp : putL cs.toList (j * 2) (prA r).toList = prsV (rs.set j r) ++ cs.toList.drop (n * 2) := by
      conv => lhs; rw [hcs]
      exact put_pair rs j r _ hj
    rw [hp]
    refine hk _ ⟨by rw [prsV_len, List.length_set]; omega, .inr ⟨b, c, _, rfl, ⟨fz, Heap.put_same _ _ _, hz.imp id fun h => ?_⟩, ?_, hnc, ?_⟩⟩ fun k o hk' hne => by rw [Heap.put_other _ _ (fun e => hne (by rw [e]))]; exact hk'
    · rw [List.size_toArray, List.length_append, prsV_len, List.length_set, List.length_drop]; omega
    · rw [List.size_toArray, List.length_append, prsV_len, List.length_set, List.length_drop]; omega
    · rw [List.toList_toArray]
      exact List.take_left' (by rw [prsV_len, List.length_set]; omega)
/-- Where a pair is put. -/
def putR (rs : List PR) (r : PR) (n : Nat) : List PR := if (rs.map PR.k)[n]? = some r.k then rs.set n r else rs.take n ++ r :: rs.drop n
def putL' : List PD → PD → List PD
  | [], p => [p]
  | q :: l, p => if ltB q.1 p.1 = true then q :: putL' l p else if q.1 = p.1 then p :: l else p :: q :: l
theorem putR_pd (r : PR) : ∀ rs : List PR, (putR rs r (lbN (rs.map PR.k) r.k)).map pd = putL' (rs.map pd) (pd r)
  | [] => rfl
  | x :: rs => by
    have ih := putR_pd r rs
    rw [List.map_cons, lbN_cons, List.map_cons]
    show _ = if ltB x.k r.k = true then pd x :: putL' (rs.map pd) (pd r) else if x.k = r.k then pd r :: rs.map pd else pd r :: pd x :: rs.map pd
    by_cases h : ltB x.k r.k = true
    · rw [if_pos h, if_pos h, ← ih]
      unfold putR
      rw [List.map_cons, List.getElem?_cons_succ]
      split
      · rw [List.set_cons_succ, List.map_cons]
      · rw [List.take_succ_cons, List.drop_succ_cons, List.cons_append, List.map_cons]
    · rw [if_neg h, if_neg h]
      unfold putR
      rw [List.map_cons, List.getElem?_cons_zero]
      by_cases e : x.k = r.k
      · rw [if_pos e, if_pos (by rw [e]), List.set_cons_zero, List.map_cons]
      · rw [if_neg e, if_neg (fun e2 => e (Option.some.inj e2))]
        rfl
end Go.Proofs.Ytlkdbmoocajjlaa.Al

/- The plain law of events: what was put is parsed. -/
import Derived.Test.YtkahpaipciooiadScrL
import Derived.Test.YtkahpaipciooiadScrD
import Derived.Test.YtkahpaipciooiadScrB
namespace Go.Proofs.Ytkahpaipciooiad.Al
open Go Go.Al Go.Proofs Go.RowKit
set_option maxHeartbeats 8000000
set_option maxRecDepth 100000
set_option linter.unusedVariables false
set_option linter.unusedSimpArgs false
def flatB (ks : List Int) : List UInt8 := ks.flatMap (beM 2)
theorem in2 {n : Int} (h : placeB n = true) : inM 2 n = true := by
  unfold placeB at h
  rw [Bool.and_eq_true, decide_eq_true_eq, decide_eq_true_eq] at h
  unfold inM
  rw [show Nat.beq 2 8 = false by decide, cond_false, Bool.and_eq_true, decide_eq_true_eq, decide_eq_true_eq]
  refine ⟨h.1, ?_⟩
  show n < 65536
  omega
theorem get2 {n : Int} (h : placeB n = true) : getV (beM 2 n) = n := by
  have h2 := in2 h
  unfold placeB at h
  rw [Bool.and_eq_true, decide_eq_true_eq, decide_eq_true_eq] at h
  exact getV_back (.inr (.inl rfl)) h2 (by omega) (by omega)
theorem put2 {n : Int} (h : placeB n = true) (l : List UInt8) : putM 2 l n = l ++ beM 2 n := by
  unfold putM
  rw [in2 h, cond_true]
theorem putAll2 : ∀ (ks : List Int) (l : List UInt8), ks.all placeB = true → putAllM 2 l ks = l ++ flatB ks := by
  intro ks
  induction ks with
  | nil => intro l _; simp [putAllM, flatB]
  | cons k ks ih =>
    intro l h
    rw [List.all_cons, Bool.and_eq_true] at h
    show putAllM 2 (putM 2 l k) ks = _
    rw [put2 h.1, ih _ h.2, List.append_assoc]
    rfl
theorem len_place {n : Nat} (h : n ≤ 65535) : placeB (n : Int) = true := by
  unfold placeB
  rw [Bool.and_eq_true, decide_eq_true_eq, decide_eq_true_eq]
  omega
theorem code_eq {e : ED} (h : checkB e = true) : codeB e = byteAt e.k 0 :: (beM 2 e.n ++ (beM 2 (e.bs.length : Int) ++ (e.bs ++ (byteAt (e.ks.length : Int) 0 :: flatB e.ks)))) := by
  obtain ⟨h1, h2, h3, h4, h5⟩ := (checkB_iff e).1 h
  unfold codeB headC
  rw [putAll2 _ _ h5, put2 h1, put2 (len_place (by omega))]
  simp
theorem flatB_len (ks : List Int) : (flatB ks).length = 2 * ks.length := by
  induction ks with
  | nil => rfl
  | cons k ks ih =>
    show (beM 2 k ++ flatB ks).length = _
    rw [List.length_append, beM_len, ih, List.length_cons]
    omega
theorem flat_at : ∀ (ks : List Int) (t : List UInt8) (i : Nat) (k : Int), ks[i]? = some k → ((flatB ks ++ t).drop (2 * i)).take 2 = beM 2 k := by
  intro ks
  induction ks with
  | nil => intro t i k h; simp at h
  | cons q ks ih =>
    intro t i k h
    show ((beM 2 q ++ flatB ks ++ t).drop (2 * i)).take 2 = _
    rw [List.append_assoc]
    cases i with
    | zero =>
      obtain rfl : q = k := by simpa using h
      show (beM 2 q ++ (flatB ks ++ t)).take 2 = _
      rw [List.take_left' (beM_len 2 q)]
    | succ i =>
      rw [show 2 * (i + 1) = 2 + 2 * i by omega, ← List.drop_drop, List.drop_left' (beM_len 2 q)]
      exact ih t i k (by simpa using h)
theorem byte_small {n : Int} (h0 : 0 ≤ n) (h1 : n < 256) : ((byteAt n 0).toNat : Int) = n := by
  rw [← wrap_byte, u8_wrap]
  omega
theorem kept_back (ks : List Int) (t : List UInt8) (hl : ks.length ≤ 200) (ha : ks.all placeB = true) : kMany (byteAt (ks.length : Int) 0 :: (flatB ks ++ t)) = ks.length ∧ keptL (byteAt (ks.length : Int) 0 :: (flatB ks ++ t)) = ks := by
  have hm : kMany (byteAt (ks.length : Int) 0 :: (flatB ks ++ t)) = ks.length := by
    have := byte_small (n := (ks.length : Int)) (by omega) (by omega)
    show (byteAt (ks.length : Int) 0).toNat = _
    omega
  refine ⟨hm, ?_⟩
  apply List.ext_getElem?
  intro i
  unfold keptL
  rw [hm, List.getElem?_map]
  by_cases hi : i < ks.length
  · rw [List.getElem?_range hi, List.getElem?_eq_getElem hi, Option.map_some]
    congr 1
    have hk := (List.all_eq_true.1 ha) _ (List.getElem_mem hi)
    unfold getN
    rw [if_pos (by rw [List.length_cons, List.length_append, flatB_len]; omega), show 1 + 2 * i = 2 * i + 1 by omega, List.drop_succ_cons, flat_at ks t i _ (List.getElem?_eq_getElem hi), get2 hk]
  · rw [List.getElem?_eq_none (by rw [List.length_range]; omega), List.getElem?_eq_none (by omega)]
    rfl
theorem first_back {e : ED} (h : checkB e = true) (t : List UInt8) : firstOk (codeB e ++ t) ∧ evOf (codeB e ++ t) = e ∧ (codeB e ++ t).drop (firstN (codeB e ++ t)) = t := by
  have hc := h
  obtain ⟨h1, h2, h3, h4, h5⟩ := (checkB_iff e).1 h
  have hk3 : 0 ≤ e.k ∧ e.k < 256 := by
    rcases (aloneB_iff _ _ _ _).1 h4 with h | h | h <;> omega
  rw [code_eq h]
  obtain ⟨k, n, bs, ks⟩ := e
  dsimp only at h1 h2 h3 h4 h5 hk3 ⊢
  have hx0 := byte_small hk3.1 hk3.2
  have g1 := get2 h1
  have g3 := get2 (len_place (show bs.length ≤ 65535 by omega))
  obtain ⟨kk1, kk2⟩ := kept_back ks t h3 h5
  have fl := flatB_len ks
  generalize byteAt k 0 = x0 at hx0 ⊢
  have l1 := beM_len 2 n
  have l2 := beM_len 2 (bs.length : Int)
  obtain ⟨a1, a0, ha⟩ : ∃ a1 a0, beM 2 n = [a1, a0] := ⟨_, _, rfl⟩
  obtain ⟨b1, b0, hb⟩ : ∃ a1 a0, beM 2 (bs.length : Int) = [a1, a0] := ⟨_, _, rfl⟩
  rw [ha] at g1 ⊢
  rw [hb] at g3 ⊢
  clear ha hb l1 l2
  generalize hq : byteAt (ks.length : Int) 0 :: (flatB ks ++ t) = tl at kk1 kk2
  have hB : x0 :: ([a1, a0] ++ ([b1, b0] ++ (bs ++ (byteAt (ks.length : Int) 0 :: flatB ks)))) ++ t = x0 :: a1 :: a0 :: b1 :: b0 :: (bs ++ tl) := by
    rw [← hq]; simp
  have htl : tl.length = 1 + 2 * ks.length + t.length := by
    rw [← hq, List.length_cons, List.length_append, fl]; omega
  rw [hB]
  have hlen : (x0 :: a1 :: a0 :: b1 :: b0 :: (bs ++ tl)).length = 5 + (bs.length + tl.length) := by
    simp only [List.length_cons, List.length_append]; omega
  have e1 : getN (x0 :: a1 :: a0 :: b1 :: b0 :: (bs ++ tl)) 1 2 = n := by
    unfold getN
    rw [if_pos (by rw [hlen]; omega)]
    exact g1
  have e3 : getN (x0 :: a1 :: a0 :: b1 :: b0 :: (bs ++ tl)) 3 2 = (bs.length : Int) := by
    unfold getN
    rw [if_pos (by rw [hlen]; omega)]
    exact g3
  have eN : sN (x0 :: a1 :: a0 :: b1 :: b0 :: (bs ++ tl)) = bs.length := by
    unfold sN
    rw [e3, Int.toNat_natCast]
  have eT : tlB (x0 :: a1 :: a0 :: b1 :: b0 :: (bs ++ tl)) = tl := by
    unfold tlB
    rw [eN, ← List.drop_drop]
    show (bs ++ tl).drop bs.length = tl
    rw [List.drop_left]
  have eE : evOf (x0 :: a1 :: a0 :: b1 :: b0 :: (bs ++ tl)) = ⟨k, n, bs, ks⟩ := by
    unfold evOf
    rw [eN, eT, kk2, e1]
    show (⟨(x0.toNat : Int), n, (bs ++ tl).take bs.length, ks⟩ : ED) = _
    rw [List.take_left, hx0]
  have eF : firstN (x0 :: a1 :: a0 :: b1 :: b0 :: (bs ++ tl)) = 5 + (bs.length + (1 + 2 * ks.length)) := by
    unfold firstN
    rw [eN, eT, kk1]
    omega
  refine ⟨?_, eE, ?_⟩
  · unfold firstOk keptOk
    rw [eN, eT, eE, hlen, kk1]
    exact ⟨by omega, by omega, ⟨by omega, by omega⟩, hc⟩
  · rw [eF, ← List.drop_drop, ← List.drop_drop]
    show ((bs ++ tl).drop bs.length).drop (1 + 2 * ks.length) = t
    rw [List.drop_left, ← hq, Nat.add_comm, List.drop_succ_cons, List.drop_left' fl]
theorem parse_put : ∀ (es : List ED), parseS (putS es) = es.filter checkB := by
  intro es
  unfold putS
  induction es with
  | nil => rfl
  | cons e es ih =>
    rw [List.filter_cons]
    split
    · next h =>
      obtain ⟨h1, h2, h3⟩ := first_back h ((es.filter checkB).flatMap codeB)
      rw [List.flatMap_cons, parseS_yes h1, h2, h3, ih]
    · exact ih
end Go.Proofs.Ytkahpaipciooiad.Al

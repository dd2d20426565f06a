/- The plain law of replies: what was encoded is decoded, and what is decoded is encoded as it was. -/
import Derived.Test.YtkahpaipciooiacRepF
namespace Go.Proofs.Ytkahpaipciooiac.Al
open Go Go.Al Go.Proofs Go.RowKit
set_option maxHeartbeats 8000000
set_option maxRecDepth 100000
set_option linter.unusedVariables false
set_option linter.unusedSimpArgs false
theorem gB_inj : ∀ (l l' : List UInt8), l.length = l'.length → gB l = gB l' → l = l' := by
  intro l
  induction l with
  | nil => intro l' h _; exact (List.eq_nil_of_length_eq_zero h.symm).symm
  | cons x l ih =>
    intro l' h hg
    cases l' with
    | nil => cases h
    | cons y l' =>
      have hl : l.length = l'.length := by simpa using h
      rw [gB_cons, gB_cons, hl] at hg
      have h1 := gB_lt l
      have h2 := gB_lt l'
      rw [hl] at h1
      generalize 256 ^ l'.length = p at hg h1 h2
      have hx : x.toNat = y.toNat := by
        have e1 : (x.toNat * p + gB l) / p = x.toNat := by rw [Nat.mul_comm, Nat.mul_add_div (by omega), Nat.div_eq_of_lt h1, Nat.add_zero]
        have e2 : (y.toNat * p + gB l') / p = y.toNat := by rw [Nat.mul_comm, Nat.mul_add_div (by omega), Nat.div_eq_of_lt h2, Nat.add_zero]
        rw [← e1, ← e2, hg]
      rw [hx] at hg
      rw [UInt8.toNat_inj.1 hx, ih l' hl (by omega)]
theorem beM_getV {m : Nat} (l : List UInt8) (hm : m ≤ 8) (h : l.length = m) : beM m (getV l) = l := by
  refine gB_inj _ _ (by rw [beM_len, h]) ?_
  have h1 := gB_lt l
  rw [h] at h1
  have h2 : 256 ^ m ≤ 256 ^ 8 := Nat.pow_le_pow_right (by decide) hm
  have h3 : (getV l % 18446744073709551616).toNat = gB l := by
    unfold getV
    rw [IntKind.wrap_i64]
    omega
  rw [gB_beM, h3, Nat.mod_eq_of_lt h1]
theorem getN_val {b : List UInt8} {i m : Nat} (h : i + m ≤ b.length) : getN b i m = getV ((b.drop i).take m) := if_pos h
theorem nsF_flat (b : List UInt8) : ∀ (i : Nat), 3 + 8 * i ≤ b.length → (nsF b i).flatMap (beM 8) = (b.drop 3).take (8 * i) := by
  intro i
  induction i with
  | zero => intro _; rfl
  | succ i ih =>
    intro h
    rw [nsF_succ, List.flatMap_append, ih (by omega), show 8 * (i + 1) = 8 * i + 8 by omega, List.take_add, List.drop_drop]
    congr 1
    rw [List.flatMap_cons, List.flatMap_nil, List.append_nil, getN_val (by omega)]
    exact beM_getV _ (by decide) (by rw [List.length_take, List.length_drop]; omega)
theorem nat_of (b : List UInt8) (i : Nat) : (((getN b i 2).toNat : Nat) : Int) = getN b i 2 := (getN2 b i).1.symm
theorem enc_dec {b : List UInt8} (h : okR b) : encR (decR b) = b := by
  have h' := (okF_iff b).2 h
  rw [decF h']
  obtain ⟨h1, h2, h3⟩ := h'
  have hnl : (nsF b (rN b)).length = rN b := by unfold nsF; simp
  have hx := (b.getD 0 0).toNat_lt
  have e0 : [byteAt (clampR ((b.getD 0 0).toNat : Int)) 0] = b.take 1 := by
    have hc : clampR ((b.getD 0 0).toNat : Int) = ((b.getD 0 0).toNat : Int) := by
      unfold clampR
      rw [if_neg (show ¬ ((b.getD 0 0).toNat : Int) < 0 by omega), if_neg (by omega)]
    have hb : byteAt ((b.getD 0 0).toNat : Int) 0 = b.getD 0 0 := by
      rw [← UInt8.toNat_inj]
      have := byteAt_int ((b.getD 0 0).toNat : Int) 0 (by decide)
      have hx2 := UInt8.toNat_lt (b[0]?.getD 0)
      simp at this ⊢
      omega
    rw [hc, hb]
    cases b with
    | nil => simp at h1
    | cons x b => rfl
  have e1 : beM 2 (rN b : Int) = (b.drop 1).take 2 := by
    unfold rN
    rw [nat_of, getN_val (by omega)]
    exact beM_getV _ (by decide) (by rw [List.length_take, List.length_drop]; omega)
  have hdl : (b.drop (3 + 8 * rN b + 2)).length = rM b := by rw [List.length_drop]; omega
  have e3 : beM 2 (rM b : Int) = (b.drop (3 + 8 * rN b)).take 2 := by
    unfold rM
    rw [nat_of, getN_val (by omega)]
    exact beM_getV _ (by decide) (by rw [List.length_take, List.length_drop]; omega)
  unfold encR
  dsimp only
  rw [hnl, hdl, e0, e1, e3, nsF_flat b (rN b) (by omega)]
  have s1 : b.take 1 ++ (b.drop 1).take 2 = b.take 3 := by rw [← List.take_add]
  have s2 : b.take 3 ++ (b.drop 3).take (8 * rN b) = b.take (3 + 8 * rN b) := by rw [← List.take_add]
  have s3 : b.take (3 + 8 * rN b) ++ (b.drop (3 + 8 * rN b)).take 2 = b.take (3 + 8 * rN b + 2) := by rw [← List.take_add]
  rw [s1, s2, s3, List.take_append_drop]
def in64 (n : Int) : Prop := -9223372036854775808 ≤ n ∧ n < 9223372036854775808
theorem flat8_drop : ∀ (ns : List Int) (j : Nat) (n : Int), ns[j]? = some n → ∃ R, (ns.flatMap (beM 8)).drop (8 * j) = beM 8 n ++ R := by
  intro ns
  induction ns with
  | nil => intro j n h; simp at h
  | cons m ns ih =>
    intro j n h
    rw [List.flatMap_cons]
    cases j with
    | zero =>
      obtain rfl : m = n := by simpa using h
      exact ⟨_, by rw [Nat.mul_zero, List.drop_zero]⟩
    | succ j =>
      obtain ⟨R, hR⟩ := ih j n (by simpa using h)
      refine ⟨R, ?_⟩
      rw [show 8 * (j + 1) = 8 + 8 * j by omega, ← List.drop_drop, List.drop_left' (beM_len 8 m), hR]
theorem drop_app {b u l : List UInt8} {i : Nat} (h : b.drop i = u ++ l) : b.drop (i + u.length) = l := by
  rw [← List.drop_drop, h, List.drop_left]
theorem dec_enc {x : RD} (h0 : 0 ≤ x.k) (h1 : x.k ≤ 255) (hl : x.ns.length ≤ 2000) (ht : x.t.length ≤ 20000) (hw : ∀ n ∈ x.ns, in64 n) : okR (encR x) ∧ decR (encR x) = x := by
  obtain ⟨k, ns, tx⟩ := x
  dsimp only at h0 h1 hl ht hw
  have hc : clampR k = k := by unfold clampR; rw [if_neg (show ¬ k < 0 by omega), if_neg (by omega)]
  have hen : encR ⟨k, ns, tx⟩ = [byteAt k 0] ++ (beM 2 ns.length ++ (ns.flatMap (beM 8) ++ (beM 2 tx.length ++ tx))) := by
    unfold encR
    dsimp only
    rw [hc]
    simp only [List.append_assoc]
  generalize encR ⟨k, ns, tx⟩ = b at hen
  have hfl := flat8_len ns
  have hlen : b.length = 1 + 2 + 8 * ns.length + 2 + tx.length := by
    rw [hen]
    simp only [List.length_append, beM_len, hfl, List.length_cons, List.length_nil]
    omega
  have d1 : b.drop 1 = beM 2 ns.length ++ (ns.flatMap (beM 8) ++ (beM 2 tx.length ++ tx)) := by
    have := drop_app (b := b) (i := 0) (u := [byteAt k 0]) (by rw [List.drop_zero]; exact hen)
    exact this
  have d3 : b.drop 3 = ns.flatMap (beM 8) ++ (beM 2 tx.length ++ tx) := by
    have := drop_app d1
    rwa [beM_len] at this
  have dA : b.drop (3 + 8 * ns.length) = beM 2 tx.length ++ tx := by
    have := drop_app d3
    rwa [hfl] at this
  have dB : b.drop (3 + 8 * ns.length + 2) = tx := by
    have := drop_app dA
    rwa [beM_len] at this
  have n1 : rN b = ns.length := by
    unfold rN
    rw [getN_val (by omega), d1, List.take_left' (beM_len 2 _), getV_back (.inr (.inl rfl)) (in2 (by omega)) (by omega) (by omega), Int.toNat_natCast]
  have n2 : rM b = tx.length := by
    unfold rM
    rw [n1, getN_val (by omega), dA, List.take_left' (beM_len 2 _), getV_back (.inr (.inl rfl)) (in2 (by omega)) (by omega) (by omega), Int.toNat_natCast]
  have hok : okF b := ⟨by omega, by omega, by omega⟩
  refine ⟨(okF_iff b).1 hok, ?_⟩
  rw [decF hok, n1, dB]
  congr 1
  · have : b.getD 0 0 = byteAt k 0 := by rw [hen]; rfl
    rw [this]
    have := byteAt_int k 0 (by decide)
    simp at this
    omega
  · unfold nsF
    apply List.ext_getElem
    · simp
    · intro j j1 j2
      simp only [List.getElem_map, List.getElem_range]
      obtain ⟨R, hR⟩ := flat8_drop ns j _ (List.getElem?_eq_getElem j2)
      have hd : b.drop (3 + 8 * j) = beM 8 ns[j] ++ (R ++ (beM 2 tx.length ++ tx)) := by
        rw [← List.drop_drop, d3, List.drop_append_of_le_length (by omega), hR, List.append_assoc]
      obtain ⟨w1, w2⟩ := hw _ (List.getElem_mem j2)
      rw [getN_val (by omega), hd, List.take_left' (beM_len 8 _), getV_back (.inr (.inr (.inr rfl))) rfl w1 w2]
theorem dec_len {b : List UInt8} (h : okR b) (hb : b.length ≤ 10000) : (decR b).ns.length ≤ 2000 ∧ (decR b).t.length ≤ 20000 := by
  have h' := (okF_iff b).2 h
  rw [decF h']
  obtain ⟨h1, h2, h3⟩ := h'
  have hnl : (nsF b (rN b)).length = rN b := by unfold nsF; simp
  refine ⟨?_, ?_⟩
  · show (nsF b (rN b)).length ≤ _
    omega
  · show (b.drop (3 + 8 * rN b + 2)).length ≤ _
    rw [List.length_drop]
    omega
end Go.Proofs.Ytkahpaipciooiac.Al

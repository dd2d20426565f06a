/- The plain law of buckets: what was put is parsed. -/
import Derived.Test.YtkahpaipciooiadBktH
namespace Go.Proofs.Ytkahpaipciooiad.Al
open Go Go.Al Go.Proofs Go.RowKit
set_option maxHeartbeats 8000000
set_option maxRecDepth 100000
set_option linter.unusedVariables false
set_option linter.unusedSimpArgs false
theorem byte_nat {n : Nat} (h : n ≤ 255) : (byteAt (n : Int) 0).toNat = n := by
  have := byteAt_int (n : Int) 0 (by decide)
  simp at this
  omega
theorem getD_drop {b : List UInt8} {i : Nat} {x : UInt8} {l : List UInt8} (h : b.drop i = x :: l) : b.getD i 0 = x := by
  have : b[i]? = some x := by
    have h1 : (b.drop i)[0]? = some x := by rw [h]; rfl
    rwa [List.getElem?_drop] at h1
  simp [List.getD, this]
theorem drop_drop_app {b u l : List UInt8} {i : Nat} (h : b.drop i = u ++ l) : b.drop (i + u.length) = l := by
  rw [← List.drop_drop, h, List.drop_left]
theorem prsGo_flat : ∀ (ps : List PD) (b suf : List UInt8) (i : Nat) (acc : List PD), (∀ p ∈ ps, p.1.length ≤ 255 ∧ p.2.length ≤ 255) → i ≤ b.length → b.drop i = ps.flatMap prB ++ suf → prsGo b ps.length i acc = some (acc ++ ps) := by
  intro ps
  induction ps with
  | nil => intro b suf i acc _ _ _; show some acc = _; rw [List.append_nil]
  | cons p ps ih =>
    intro b suf i acc hs hi hd
    obtain ⟨hk, hv⟩ := hs p (by simp)
    obtain ⟨k, v⟩ := p
    dsimp only at hk hv
    have hd' : b.drop i = byteAt k.length 0 :: byteAt v.length 0 :: (k ++ (v ++ (ps.flatMap prB ++ suf))) := by
      rw [hd, List.flatMap_cons]
      simp [prB]
    have hlen := congrArg List.length hd'
    rw [List.length_drop] at hlen
    simp only [List.length_cons, List.length_append] at hlen
    have g0 : b.getD i 0 = byteAt k.length 0 := getD_drop hd'
    have hd1 : b.drop (i + 1) = byteAt v.length 0 :: (k ++ (v ++ (ps.flatMap prB ++ suf))) := drop_drop_app (u := [byteAt k.length 0]) hd'
    have g1 : b.getD (i + 1) 0 = byteAt v.length 0 := getD_drop hd1
    have hd2 : b.drop (i + 2) = k ++ (v ++ (ps.flatMap prB ++ suf)) := drop_drop_app (u := [byteAt k.length 0, byteAt v.length 0]) hd'
    have hd3 : b.drop (i + 2 + k.length) = v ++ (ps.flatMap prB ++ suf) := drop_drop_app hd2
    have hd4 : b.drop (i + 2 + k.length + v.length) = ps.flatMap prB ++ suf := drop_drop_app hd3
    have n0 : (b.getD i 0).toNat = k.length := by rw [g0]; exact byte_nat hk
    have n1 : (b.getD (i + 1) 0).toNat = v.length := by rw [g1]; exact byte_nat hv
    have hok : pairOk b i := ⟨by omega, by rw [n0, n1]; omega⟩
    have hN : pairN b i = i + 2 + k.length + v.length := by unfold pairN; rw [n0, n1]
    have hP : pairP b i = (k, v) := by
      unfold pairP
      rw [n0, n1, hd2, hd3, List.take_left, List.take_left]
    show (if pairOk b i then prsGo b ps.length (pairN b i) (acc ++ [pairP b i]) else none) = _
    rw [if_pos hok, hN, hP, ih b suf _ _ (fun q hq => hs q (by simp [hq])) (by omega) hd4, List.append_assoc]
    rfl
theorem parse_put {B : BD} (h : MayP B) : parseB (pageB B) = some B := by
  have hl := pageB_len h
  have hmy := (mayB_iff B).2 h
  obtain ⟨h1, h2, h3, h4, h5⟩ := h
  obtain ⟨d, nx, ps⟩ := B
  dsimp only at h1 h2 h3 h4 h5
  have hn := sumP_ge ps
  have hpg : pageB ⟨d, nx, ps⟩ = [66, byteAt d 0] ++ (beM 4 nx ++ (beM 2 ps.length ++ (ps.flatMap prB ++ List.replicate (240 - (bodyB ⟨d, nx, ps⟩).length) 0))) := by
    unfold pageB bodyB headB
    simp only [List.append_assoc]
  generalize List.replicate (240 - (bodyB ⟨d, nx, ps⟩).length) (0 : UInt8) = suf at hpg
  generalize hb : pageB ⟨d, nx, ps⟩ = b at hl hpg ⊢
  have hd0 : b.drop 0 = [66, byteAt d 0] ++ (beM 4 nx ++ (beM 2 ps.length ++ (ps.flatMap prB ++ suf))) := by rw [List.drop_zero]; exact hpg
  have hd2 : b.drop 2 = beM 4 nx ++ (beM 2 ps.length ++ (ps.flatMap prB ++ suf)) := drop_drop_app hd0
  have hd6 : b.drop 6 = beM 2 ps.length ++ (ps.flatMap prB ++ suf) := by
    have := drop_drop_app hd2
    rwa [beM_len] at this
  have hd8 : b.drop 8 = ps.flatMap prB ++ suf := by
    have := drop_drop_app hd6
    rwa [beM_len] at this
  have hb1 : b.getD 1 0 = byteAt d 0 := getD_drop (drop_drop_app (u := [66]) hd0)
  have hdn : ((b.getD 1 0).toNat : Int) = d := by
    rw [hb1]
    have := byteAt_int d 0 (by decide)
    simp at this
    omega
  have h4' := (in4 nx).1 h4
  have g2 : getN b 2 4 = nx := by
    unfold getN
    rw [if_pos (by omega), hd2, List.take_left' (beM_len 4 nx)]
    exact getV_back (.inr (.inr (.inl rfl))) h4 (by omega) (by omega)
  have i2 : inM 2 (ps.length : Int) = true := by unfold inM; simp; omega
  have g6 : getN b 6 2 = (ps.length : Int) := by
    unfold getN
    rw [if_pos (by omega), hd6, List.take_left' (beM_len 2 _)]
    exact getV_back (.inr (.inl rfl)) i2 (by omega) (by omega)
  have hgo : prsGo b (getN b 6 2).toNat 8 [] = some ps := by
    rw [g6, Int.toNat_natCast, prsGo_flat ps b suf 8 [] (fun p hp => ?_) (by omega) hd8, List.nil_append]
    obtain ⟨i, hi, rfl⟩ := List.getElem_of_mem hp
    have := (fairB_iff _).1 (h5 i _ (List.getElem?_eq_getElem hi)).1
    omega
  have hbd : bdOf b ps = ⟨d, nx, ps⟩ := by unfold bdOf; rw [hdn, g2]
  unfold parseB
  rw [if_pos hl, hgo]
  dsimp only
  rw [hbd, if_pos ⟨hmy, hb⟩]
theorem parse_some {b : List UInt8} {B : BD} (h : parseB b = some B) : mayB B = true ∧ pageB B = b := by
  unfold parseB at h
  split at h
  · split at h
    · cases h
    · split at h
      · next h2 => obtain rfl := Option.some.inj h; exact h2
      · cases h
  · cases h
end Go.Proofs.Ytkahpaipciooiad.Al

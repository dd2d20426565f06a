/- The contracts of slices.Grow of nothing, slices.Concat and bytes.Clone, over what is known of memory. -/
import Derived.Test.YtkahpaipciooiacNumG
import Derived.Test.YtkahpaipciooiacAlRows
namespace Go.Proofs.Ytkahpaipciooiac.Al
open Go Go.Al Go.Proofs Go.RowKit
set_option maxHeartbeats 8000000
set_option maxRecDepth 100000
set_option linter.unusedVariables false
set_option linter.unusedSimpArgs false
theorem grow0 (n : Nat) (hn : n ≤ 1000000) (F : Heap) : FnK Try.prog 58 #[.slice none 0 0, .int .i64 (n : Int)] F (fun v F' => Mine F F' v 5 1 0 []) := by
  have hw : IntKind.i64.wrap ((n : Int) - IntKind.i64.wrap (((0 : Nat) : Int) - ((0 : Nat) : Int))) = (n : Int) := by
    rw [show IntKind.i64.wrap (((0 : Nat) : Int) - ((0 : Nat) : Int)) = 0 by decide, IntKind.wrap_i64]
    omega
  (refine fn_walk tab_ok Try.func58 rfl rfl rfl rfl ?_; (conv => whnf))
  generalize IntKind.i64.wrap ((n : Int) - IntKind.i64.wrap (((0 : Nat) : Int) - ((0 : Nat) : Int))) = m at hw
  subst hw
  have hnil : Mine F F (.slice none 0 0) 5 1 0 [] := Mine.nil _ _ _ _ (Ext.refl F)
  refine cond_split (fun h => ?_) (fun h => ?_)
  · (conv => whnf)
    refine ⟨⟨by decide, by decide⟩, ?_⟩
    (conv => whnf)
    refine append_zeros tab_ok (e := 5) (n := 0) (m := n) (k := .i64) (xs := []) (s := .slice none 0 0) (z0 := .int .u8 0) rfl rfl rfl rfl rfl ⟨_, rfl, rfl⟩ ⟨rfl, by decide, _, rfl, rfl⟩ rfl hnil.own (by show 2 * (0 + n) * 1 ≤ _; omega) fun s' F' ho hk hf => ?_
    have h0 := of_decide_eq_true h
    rcases ho.2 with ⟨h1, h2⟩ | ⟨b, c, cs, rfl, hlv, hcs, hle, _⟩
    · omega
    have hfr : F b = none := by
      rcases hf b rfl with h | h
      · cases h
      · exact h
    obtain ⟨c1, rfl⟩ : ∃ c1, c = c1 + 1 := ⟨c - 1, by omega⟩
    (conv => whnf)
    refine ⟨⟨by decide, by omega⟩, ?_⟩
    (conv => whnf)
    exact ⟨⟨rfl, .inr ⟨b, c1 + 1, cs, rfl, hlv, hcs, Nat.zero_le _, by simp⟩⟩, fun b' hb' => (by obtain rfl : b = b' := Option.some.inj hb'; exact hfr), fun q o hq => hk q o hq (by intro e; cases e)⟩
  · (conv => whnf)
    exact hnil
/-- A row of rows of bytes. -/
abbrev BP := List UInt8 × Option Addr × Nat
def catV (p : BP) : Value := .slice p.2.1 p.1.length p.2.2
def flat (ps : List BP) : List UInt8 := ps.flatMap (·.1)
theorem flat_take {ps : List BP} {j : Nat} {p : BP} (h : ps[j]? = some p) : flat (ps.take (j + 1)) = flat (ps.take j) ++ p.1 := by
  unfold flat
  rw [List.take_add_one, h]
  simp
theorem flat_le (ps : List BP) (j : Nat) : (flat (ps.take j)).length ≤ (flat ps).length := by
  unfold flat
  conv => rhs; rw [← List.take_append_drop j ps]
  rw [List.flatMap_append, List.length_append]
  exact Nat.le_add_right _ _
theorem concat (ps : List BP) (A : Option Addr) (c : Nat) (F : Heap) (hr : RowAt F A (ps.map catV)) (hp : ∀ p ∈ ps, RowAt F p.2.1 (bytesOf p.1)) (hl : ps.length ≤ 1000) (hs : (flat ps).length ≤ 900000) :
    FnK Try.prog 38 #[.slice A ps.length c] F (fun v F' => Mine F F' v 5 1 (flat ps).length (bytesOf (flat ps))) := by
  (refine fn_walk tab_ok Try.func38 rfl rfl rfl rfl ?_; (conv => whnf))
  refine loop_slots [0, 3, 9, 10, 11] (fun k vs F' => ∃ j : Nat, j + k = ps.length ∧ vs = [.slice A ps.length c, .int .i64 ((flat (ps.take j)).length : Int), .slice A ps.length c, .int .i64 (ps.length : Int), .int .i64 (j : Int)] ∧ F' = F) ps.length ⟨0, by omega, rfl, rfl⟩ ?_
  rintro k vs F2 ρ ⟨j, hjk, rfl, rfl⟩
  (conv => whnf)
  refine cond_split (fun h => ?_) (fun h => ?_)
  · have hj : j < ps.length := by have := of_decide_eq_true h; omega
    obtain ⟨ad, rfl⟩ := hr.some (by simp; omega)
    have hx : ps[j]? = some ps[j] := List.getElem?_eq_getElem hj
    have hft := flat_take hx
    have hfl := flat_le ps (j + 1)
    have hc : (ps.map catV)[j]? = some (.slice ps[j].2.1 ps[j].1.length ps[j].2.2) := by rw [List.getElem?_map, hx]; rfl
    generalize ps[j] = p at hft hc
    obtain ⟨x, B, cc⟩ := p
    dsimp only at hft hc
    rw [hft, List.length_append] at hfl
    have hw : IntKind.i64.wrap (((flat (ps.take j)).length : Int) + (x.length : Int)) = (((flat (ps.take (j + 1))).length : Nat) : Int) := by
      rw [hft, List.length_append, IntKind.wrap_i64]
      omega
    (conv => whnf)
    refine ⟨⟨by omega, by omega⟩, ?_⟩
    (conv => whnf)
    refine load_step (v := .slice B x.length cc) ?_ ?_
    · show F2.cell? (ad.add (Int.toNat (j : Int) * 1)) = _
      rw [Int.toNat_natCast, Nat.mul_one]
      exact hr.cell hc
    generalize hsz : ((flat (ps.take j)).length : Int) = sz at hw
    (conv => whnf)
    refine cond_split (fun h => ?_) (fun h => ?_)
    · have h : decide (IntKind.i64.wrap (sz + (x.length : Int)) < 0) = true := h
      rw [hw] at h
      have := of_decide_eq_true h
      omega
    · (conv => whnf)
      refine ⟨k - 1, by omega, j + 1, by omega, ?_, rfl⟩
      have hw2 : IntKind.i64.wrap ((j : Int) + 1) = ((j + 1 : Nat) : Int) := by rw [IntKind.wrap_i64]; omega
      rw [← hw2, ← hw]
      rfl
  · have hj : j = ps.length := by have := of_decide_eq_false h; omega
    subst hj
    rw [List.take_length]
    (conv => whnf)
    refine call_of (grow0 (flat ps).length (by omega) F2) ?_
    rintro v F3 hm
    (conv => whnf)
    refine loop_slots [6, 25, 26, 27] (fun k vs F' => ∃ (j : Nat) (S : Value), j + k = ps.length ∧ vs = [S, .slice A ps.length c, .int .i64 (ps.length : Int), .int .i64 (j : Int)] ∧ Mine F2 F' S 5 1 (flat (ps.take j)).length (bytesOf (flat (ps.take j)))) ps.length ⟨0, v, by omega, rfl, hm⟩ ?_
    rintro k vs F4 ρ ⟨j, S, hjk, rfl, hm4⟩
    (conv => whnf)
    refine cond_split (fun h => ?_) (fun h => ?_)
    · have hj : j < ps.length := by have := of_decide_eq_true h; omega
      obtain ⟨ad, rfl⟩ := hr.some (by simp; omega)
      have hx : ps[j]? = some ps[j] := List.getElem?_eq_getElem hj
      have hft := flat_take hx
      have hfl := flat_le ps (j + 1)
      have hc : (ps.map catV)[j]? = some (.slice ps[j].2.1 ps[j].1.length ps[j].2.2) := by rw [List.getElem?_map, hx]; rfl
      have hrp := hp ps[j] (List.getElem_mem hj)
      generalize ps[j] = p at hft hc hrp
      obtain ⟨x, B, cc⟩ := p
      dsimp only at hft hc hrp
      rw [hft, List.length_append] at hfl
      (conv => whnf)
      refine ⟨⟨by omega, by omega⟩, ?_⟩
      (conv => whnf)
      refine load_step (v := .slice B x.length cc) ?_ ?_
      · show F4.cell? (ad.add (Int.toNat (j : Int) * 1)) = _
        rw [Int.toNat_natCast, Nat.mul_one]
        exact (hr.mono hm4.ext).cell hc
      (conv => whnf)
      refine append_mine tab_ok rfl rfl rfl rfl rfl ⟨_, rfl, fun k h => by cases h⟩ ⟨_, rfl, rfl⟩ (by decide) hm4 (m := x.length) (ys := bytesOf x) (y := .slice B x.length cc) ⟨by simp [bytesOf], .inl ⟨_, _, rfl, hrp.mono hm4.ext⟩⟩ (hone_bytes x) (by show 2 * ((flat (ps.take j)).length + x.length) * 1 ≤ _; omega) fun s' F5 h1 h2 => ?_
      (conv => whnf)
      refine ⟨k - 1, by omega, j + 1, s', by omega, ?_, ?_⟩
      · have hw2 : IntKind.i64.wrap ((j : Int) + 1) = ((j + 1 : Nat) : Int) := by rw [IntKind.wrap_i64]; omega
        rw [← hw2]
        rfl
      · rw [hft, List.length_append, bytes_app]
        exact h1
    · have hj : j = ps.length := by have := of_decide_eq_false h; omega
      subst hj
      rw [List.take_length] at hm4
      (conv => whnf)
      exact hm4
end Go.Proofs.Ytkahpaipciooiac.Al

/- The contract of the reference's Put, over what is known of memory. -/
import Derived.Test.YtkahpaipciooiaaMetaPut
namespace Go.Proofs.Ytkahpaipciooiaa.Al
open Go Go.Al Go.Proofs Go.RowKit
set_option maxHeartbeats 8000000
set_option maxRecDepth 100000
set_option linter.unusedVariables false
set_option linter.unusedSimpArgs false
theorem Mine.down {F G F' : Heap} {s : Value} {e z n : Nat} {vs : List Value} (h : Mine G F' s e z n vs) (hE : Ext F G) : Mine F F' s e z n vs := by
  refine ⟨h.own, fun b hb => ?_, hE.trans h.ext⟩
  cases e0 : F b with
  | none => rfl
  | some o =>
    have := h.fresh b hb
    rw [hE b o e0] at this
    cases this
theorem rputNo (d f n k : Int) (l : List Int) (A : Option Addr) (c : Nat) (F : Heap) (hr : RowAt F A (l.map (.int .i64))) (hl : l.length ≤ 1000) (hm : mayB d f n k l = false) :
    FnK Try.prog 11 #[.agg #[.int .i64 d, .int .i64 f, .int .i64 n, .int .i64 k, .slice A l.length c]] F (fun v F' => v = .tuple #[.slice none 0 0, .int .i64 1] ∧ Ext F F') := by
  have hM := fun G hg => rmay d f n k l A c G hg hl
  rw [hm] at hM
  (refine fn_walk tab_ok Try.func11 rfl rfl rfl rfl ?_; (conv => whnf))
  refine new_step (.cells #[.int .i64 d, .int .i64 f, .int .i64 n, .int .i64 k, .slice A l.length c] 26) rfl fun b hb => ?_
  have hE : Ext F (F.put b (.cells #[.int .i64 d, .int .i64 f, .int .i64 n, .int .i64 k, .slice A l.length c] 26)) := Ext.new hb _
  have hB := Heap.put_same F b (.cells #[.int .i64 d, .int .i64 f, .int .i64 n, .int .i64 k, .slice A l.length c] 26)
  generalize F.put b _ = F1 at hE hB ⊢
  (conv => whnf)
  refine ⟨⟨_, _, _, hB, rfl, Nat.le_refl 5, ?_⟩⟩
  (conv => whnf)
  refine call_of (hM F1 (hr.mono hE)) ?_
  rintro v F2 ⟨rfl, hE2⟩
  (conv => whnf)
  exact ⟨rfl, hE.trans hE2⟩
theorem rputOk (d f n k : Int) (l : List Int) (A : Option Addr) (c : Nat) (F : Heap) (hr : RowAt F A (l.map (.int .i64))) (hm : mayB d f n k l = true) :
    FnK Try.prog 11 #[.agg #[.int .i64 d, .int .i64 f, .int .i64 n, .int .i64 k, .slice A l.length c]] F (fun v F' => (∃ r, v = .tuple #[r, .int .i64 0] ∧ Bs F' r (pageS d f n k l)) ∧ Ext F F') := by
  have hmay := mayB_iff d f n k l
  obtain ⟨⟨d0, d1⟩, ⟨l0, l1⟩, _⟩ := hmay.1 hm
  have hM := fun G hg => rmay d f n k l A c G hg (by omega)
  rw [hm] at hM
  (refine fn_walk tab_ok Try.func11 rfl rfl rfl rfl ?_; (conv => whnf))
  refine new_step (.cells #[.int .i64 d, .int .i64 f, .int .i64 n, .int .i64 k, .slice A l.length c] 26) rfl fun b hb => ?_
  have hE : Ext F (F.put b (.cells #[.int .i64 d, .int .i64 f, .int .i64 n, .int .i64 k, .slice A l.length c] 26)) := Ext.new hb _
  have hB := Heap.put_same F b (.cells #[.int .i64 d, .int .i64 f, .int .i64 n, .int .i64 k, .slice A l.length c] 26)
  generalize F.put b _ = F1 at hE hB ⊢
  (conv => whnf)
  refine ⟨⟨_, _, _, hB, rfl, Nat.le_refl 5, ?_⟩⟩
  (conv => whnf)
  refine call_of (hM F1 (hr.mono hE)) ?_
  rintro v F2 ⟨rfl, hE2⟩
  have hB2 := hE2 b _ hB
  replace hE2 := hE.trans hE2
  (conv => whnf)
  refine new_step (.cells #[.int .u8 69, .int .u8 88, .int .u8 67, .int .u8 72] 5) rfl fun g hg => ?_
  have hgb : g ≠ b := fun e => by rw [e, hB2] at hg; cases hg
  (conv => whnf)
  refine conv_mark tab_ok rfl rfl rfl rfl (Heap.put_same _ _ _) ?_
  rw [Heap.put_put]
  have hFg : F g = none := by
    cases e : F g with
    | none => rfl
    | some o => rw [hE2 g o e] at hg; cases hg
  have hE3 : Ext F (F2.put g (.cells #[.int .u8 69, .int .u8 88, .int .u8 67, .int .u8 72] 5 (4, 5))) := hE2.put hFg _
  have hB3 : (F2.put g (.cells #[.int .u8 69, .int .u8 88, .int .u8 67, .int .u8 72] 5 (4, 5))) b = _ := (Heap.put_other _ _ (Ne.symm hgb)).trans hB2
  have hm3 : Mine F (F2.put g (.cells #[.int .u8 69, .int .u8 88, .int .u8 67, .int .u8 72] 5 (4, 5))) (.slice (some ⟨g, 0, none⟩) 4 4) 5 1 4 (bytesOf [69, 88, 67, 72]) := by
    refine ⟨⟨rfl, .inr ⟨g, 4, _, rfl, ⟨_, Heap.put_same _ _ _, .inr (Nat.le_refl 4)⟩, rfl, Nat.le_refl 4, rfl⟩⟩, fun q hq => ?_, hE3⟩
    obtain rfl : g = q := Option.some.inj hq
    exact hFg
  have hne3 : ∀ q, blk (.slice (some ⟨g, 0, none⟩) 4 4) = some q → q ≠ b := fun q hq => by
    obtain rfl : g = q := Option.some.inj hq
    exact hgb
  (conv => whnf)
  refine load_blk hB3 rfl rfl ?_
  (conv => whnf)
  refine load_blk hB3 rfl rfl ?_
  (conv => whnf)
  refine new_step (.cells #[.int .u8 ((UInt8.ofNat (d.toNat % 256)).toNat : Int), .int .u8 ((UInt8.ofNat l.length).toNat : Int)] 5) ?_ fun q hq => ?_
  · rw [← u8_val d d0 (by omega)]
    have : ((UInt8.ofNat l.length).toNat : Int) = IntKind.u8.wrap (l.length : Int) := by
      rw [u8_val (l.length : Int) (by omega) (by omega), Int.toNat_natCast, Nat.mod_eq_of_lt (by omega : l.length < 256)]
    rw [this]
    rfl
  (conv => whnf)
  refine append_mine tab_ok rfl rfl rfl rfl rfl ⟨_, rfl, fun k h => by cases h⟩ ⟨_, rfl, rfl⟩ (by decide) (hm3.mono (Ext.new hq _)) (m := 2) (ys := [.int .u8 ((UInt8.ofNat (d.toNat % 256)).toNat : Int), .int .u8 ((UInt8.ofNat l.length).toNat : Int)]) (y := .slice (some ⟨q, 0, none⟩) 2 2) ⟨rfl, .inl ⟨_, _, rfl, fun i u hi => ⟨_, rfl, ?_⟩⟩⟩ (fun u hu => by simp at hu; rcases hu with rfl | rfl <;> rfl) (by decide) fun s' F4 h1 h2 => ?_
  · rw [add_plain, Heap.cell_at (Heap.put_same _ _ _), Nat.zero_add]
    simpa using hi
  have hB4 := h2 b _ (((Ext.new hq _) b _ hB3)) (fun e => hne3 b e rfl)
  have hm4 : Bs F4 s' (headS d l.length) := Bs.of_mine h1
  have hE4 := h1.ext
  (conv => whnf)
  refine draw_walk tab_ok (by kernel_rfl) [0, 1, 2, 4, 5, 7, 8, 3, 6, 9, 10] (by kernel_rfl) ?_
  (conv => whnf)
  refine load_blk hB4 rfl rfl ?_
  (conv => whnf)
  refine load_blk hB4 rfl rfl ?_
  (conv => whnf)
  refine load_blk hB4 rfl rfl ?_
  have hx : (headS d l.length).length = 6 := rfl
  obtain ⟨A4, c4, rfl, hc4, hr4⟩ := hm4
  (conv => whnf)
  refine call_of (rput (headS d l.length) A4 c4 f F4 hr4 (by rw [hx]; decide)) ?_
  intro v5 F5 h5
  have e5 := put4_len (headS d l.length) f
  have hB5 := h5.ext b _ hB4
  have hE5 := hE4.trans h5.ext
  obtain ⟨A5, c5, rfl, hc5, hr5⟩ := Bs.of_mine h5
  (conv => whnf)
  refine ⟨h5.ext, ?_⟩
  (conv => whnf)
  refine call_of (rput (put4 (headS d l.length) f) A5 c5 n F5 hr5 (by omega)) ?_
  intro v6 F6 h6
  have e6 := put4_len (put4 (headS d l.length) f) n
  have hB6 := h6.ext b _ hB5
  have hE6 := hE5.trans h6.ext
  obtain ⟨A6, c6, rfl, hc6, hr6⟩ := Bs.of_mine h6
  (conv => whnf)
  refine ⟨h6.ext, ?_⟩
  (conv => whnf)
  refine call_of (rput (put4 (put4 (headS d l.length) f) n) A6 c6 k F6 hr6 (by omega)) ?_
  intro v7 F7 h7
  have e7 := put4_len (put4 (put4 (headS d l.length) f) n) k
  have hB7 := h7.ext b _ hB6
  have hE7 := hE6.trans h7.ext
  have hb7 := h7
  (conv => whnf)
  refine loop_slots [1, 4, 5] (fun m vs F' => ∃ (j : Nat) (w : Value), j + m = l.length ∧ vs = [.pointer (some ⟨b, 0, none⟩), w, .int .i64 (j : Int)] ∧ Mine F F' w 5 1 (putAll (putAll (headS d l.length) [f, n, k]) (l.take j)).length (bytesOf (putAll (putAll (headS d l.length) [f, n, k]) (l.take j))) ∧ F' b = some (.cells #[.int .i64 d, .int .i64 f, .int .i64 n, .int .i64 k, .slice A l.length c] 26)) l.length ⟨0, v7, by omega, rfl, ?_, hB7⟩ ?_
  · have hz : putAll (putAll (headS d l.length) [f, n, k]) (l.take 0) = put4 (put4 (put4 (headS d l.length) f) n) k := rfl
    rw [hz]
    exact Mine.down h7 hE6
  · rintro m vs F8 ρ ⟨j, w, hjm, rfl, hw, hB8⟩
    (conv => whnf)
    refine load_blk hB8 rfl rfl ?_
    (conv => whnf)
    have hl6 := putAll_len [f, n, k] (headS d l.length)
    have hl7 := putAll_len (l.take j) (putAll (headS d l.length) [f, n, k])
    have h4 : ([f, n, k] : List Int).length = 3 := rfl
    rw [List.length_take] at hl7
    refine cond_split (fun h => ?_) (fun h => ?_)
    · have hj : j < l.length := by have := of_decide_eq_true h; omega
      obtain ⟨ad, rfl⟩ := hr.some (by simp; omega)
      have hxj : l[j]? = some l[j] := List.getElem?_eq_getElem hj
      obtain ⟨A8, c8, rfl, hc8, hr8⟩ := Bs.of_mine hw
      (conv => whnf)
      refine load_blk hB8 rfl rfl ?_
      (conv => whnf)
      refine ⟨⟨by omega, by omega⟩, ?_⟩
      (conv => whnf)
      refine load_step (v := .int .i64 l[j]) ?_ ?_
      · show F8.cell? (ad.add (Int.toNat (j : Int) * 1)) = _
        rw [Int.toNat_natCast, Nat.mul_one]
        exact hw.ext.cell (hr.cell (by simp [hxj]))
      (conv => whnf)
      refine call_of (rput _ A8 c8 l[j] F8 hr8 (by omega)) ?_
      intro r F9 h9
      (conv => whnf)
      refine ⟨m - 1, by omega, j + 1, r, by omega, ?_, ?_, h9.ext b _ hB8⟩
      · have hw : IntKind.i64.wrap ((j : Int) + 1) = ((j + 1 : Nat) : Int) := by rw [IntKind.wrap_i64]; omega
        rw [← hw]
        rfl
      · have hs : putAll (putAll (headS d l.length) [f, n, k]) (l.take (j + 1)) = put4 (putAll (putAll (headS d l.length) [f, n, k]) (l.take j)) l[j] := by
          unfold putAll
          rw [List.take_add_one, hxj, Option.toList_some, List.foldl_append]
          rfl
        rw [hs]
        exact Mine.down h9 hw.ext
    · have hj : j = l.length := by have := of_decide_eq_false h; omega
      subst hj
      rw [List.take_length] at hw
      change Mine F F8 w 5 1 (bodyS d f n k l).length (bytesOf (bodyS d f n k l)) at hw
      have hbl := body_len d f n k l l1
      have hpl := page_len d f n k l l1
      have hpg : pageS d f n k l = bodyS d f n k l ++ List.replicate (240 - (bodyS d f n k l).length) 0 := rfl
      generalize pageS d f n k l = pg at hpl hpg ⊢
      generalize bodyS d f n k l = bd at hw hbl hpg
      obtain ⟨A8, c8, rfl, hc8, hr8⟩ := Bs.of_mine hw
      have hsub : IntKind.i64.wrap (240 - (bd.length : Int)) = ((240 - bd.length : Nat) : Int) := by rw [IntKind.wrap_i64]; omega
      (conv => whnf)
      refine append_zeros tab_ok (m := 240 - bd.length) (n := bd.length) (s := .slice A8 bd.length c8) rfl rfl (by show Value.int .i64 (IntKind.i64.wrap (240 - (bd.length : Int))) = _; rw [hsub]) rfl rfl ⟨_, rfl, rfl⟩ ⟨rfl, by decide, _, rfl, rfl⟩ rfl hw.own (by show 2 * (bd.length + (240 - bd.length)) * 1 ≤ _; omega) fun s' F9 g1 g2 g3 => ?_
      (conv => whnf)
      refine ⟨⟨s', rfl, ?_⟩, g2.ext hw.ext hw.fresh⟩
      obtain ⟨A9, c9, rfl, hc9, hr9⟩ := g1.row
      refine ⟨A9, c9, by rw [hpl, show bd.length + (240 - bd.length) = 240 by omega], by omega, ?_⟩
      rw [hpg]
      unfold bytesOf
      rw [List.map_append, List.map_replicate]
      exact hr9
end Go.Proofs.Ytkahpaipciooiaa.Al

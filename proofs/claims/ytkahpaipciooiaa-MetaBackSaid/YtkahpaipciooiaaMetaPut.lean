/- The contracts of meta.Put and of its reference, over what is known of memory. -/
import Derived.Test.YtkahpaipciooiaaMetaRMay
namespace Go.Proofs.Ytkahpaipciooiaa.Al
open Go Go.Al Go.Proofs Go.RowKit
set_option maxHeartbeats 8000000
set_option maxRecDepth 100000
set_option linter.unusedVariables false
set_option linter.unusedSimpArgs false
def headS (d : Int) (m : Nat) : List UInt8 := [69, 88, 67, 72, UInt8.ofNat (d.toNat % 256), UInt8.ofNat m]
def bodyS (d f n k : Int) (l : List Int) : List UInt8 := putAll (putAll (headS d l.length) [f, n, k]) l
/-- Meta's page. -/
def pageS (d f n k : Int) (l : List Int) : List UInt8 := bodyS d f n k l ++ List.replicate (240 - (bodyS d f n k l).length) 0
theorem u8_val (n : Int) (h0 : 0 ≤ n) (h1 : n < 256) : IntKind.u8.wrap n = ((UInt8.ofNat (n.toNat % 256)).toNat : Int) := by
  rw [UInt8.toNat_ofNat']
  simp only [IntKind.wrap, IntKind.signed, IntKind.bits]
  simp
  omega
theorem Bs.mono {F G : Heap} {v : Value} {bs : List UInt8} (h : Bs F v bs) (hE : Ext F G) : Bs G v bs := by
  obtain ⟨A, c, h1, h2, h3⟩ := h
  exact ⟨A, c, h1, h2, h3.mono hE⟩
theorem body_len (d f n k : Int) (l : List Int) (h : l.length ≤ 20) : (bodyS d f n k l).length ≤ 98 := by
  have h1 := putAll_len l (putAll (headS d l.length) [f, n, k])
  have h2 := putAll_len [f, n, k] (headS d l.length)
  have h3 : (headS d l.length).length = 6 := rfl
  have h4 : ([f, n, k] : List Int).length = 3 := rfl
  unfold bodyS
  omega
theorem page_len (d f n k : Int) (l : List Int) (h : l.length ≤ 20) : (pageS d f n k l).length = 240 := by
  have := body_len d f n k l h
  unfold pageS
  rw [List.length_append, List.length_replicate]
  omega
theorem putOk (d f n k : Int) (l : List Int) (A : Option Addr) (c : Nat) (F : Heap) (hr : RowAt F A (l.map (.int .i64))) (hm : mayB d f n k l = true) :
    FnK Try.prog 10 #[.agg #[.int .i64 d, .int .i64 f, .int .i64 n, .int .i64 k, .slice A l.length c]] F (fun v F' => (∃ r, v = .tuple #[r, .int .i64 0] ∧ Bs F' r (pageS d f n k l)) ∧ Ext F F') := by
  have hmay := mayB_iff d f n k l
  obtain ⟨⟨d0, d1⟩, ⟨l0, l1⟩, _⟩ := hmay.1 hm
  have hM := fun G hg => may d f n k l A c G hg (by omega)
  rw [hm] at hM
  (refine fn_walk tab_ok Try.func10 rfl rfl rfl rfl ?_; (conv => whnf))
  refine new_step (.cells #[.int .i64 d, .int .i64 f, .int .i64 n, .int .i64 k, .slice A l.length c] 26) rfl fun b hb => ?_
  have hE : Ext F (F.put b (.cells #[.int .i64 d, .int .i64 f, .int .i64 n, .int .i64 k, .slice A l.length c] 26)) := Ext.new hb _
  have hB := Heap.put_same F b (.cells #[.int .i64 d, .int .i64 f, .int .i64 n, .int .i64 k, .slice A l.length c] 26)
  generalize F.put b _ = F1 at hE hB ⊢
  (conv => whnf)
  refine ⟨⟨_, _, _, hB, rfl, Nat.le_refl 5, ?_⟩⟩
  (conv => whnf)
  refine call_of (hM F1 (hr.mono hE)) ?_
  rintro v F2 ⟨rfl, hE2⟩
  have hB2 := hE2 b _ hB
  replace hE2 := hE.trans hE2
  (conv => whnf)
  refine new_step (.cells #[.int .u8 69, .int .u8 88, .int .u8 67, .int .u8 72] 5) rfl fun g hg => ?_
  have hgb : g ≠ b := fun e => by rw [e, hB2] at hg; cases hg
  (conv => whnf)
  refine conv_mark tab_ok rfl rfl rfl rfl (Heap.put_same _ _ _) ?_
  rw [Heap.put_put]
  have hFg : F g = none := by
    cases e : F g with
    | none => rfl
    | some o => rw [hE2 g o e] at hg; cases hg
  have hE3 : Ext F (F2.put g (.cells #[.int .u8 69, .int .u8 88, .int .u8 67, .int .u8 72] 5 (4, 5))) := hE2.put hFg _
  have hB3 : (F2.put g (.cells #[.int .u8 69, .int .u8 88, .int .u8 67, .int .u8 72] 5 (4, 5))) b = _ := (Heap.put_other _ _ (Ne.symm hgb)).trans hB2
  have hm3 : Mine F (F2.put g (.cells #[.int .u8 69, .int .u8 88, .int .u8 67, .int .u8 72] 5 (4, 5))) (.slice (some ⟨g, 0, none⟩) 4 4) 5 1 4 (bytesOf [69, 88, 67, 72]) := by
    refine ⟨⟨rfl, .inr ⟨g, 4, _, rfl, ⟨_, Heap.put_same _ _ _, .inr (Nat.le_refl 4)⟩, rfl, Nat.le_refl 4, rfl⟩⟩, fun q hq => ?_, hE3⟩
    obtain rfl : g = q := Option.some.inj hq
    exact hFg
  have hne3 : ∀ q, blk (.slice (some ⟨g, 0, none⟩) 4 4) = some q → q ≠ b := fun q hq => by
    obtain rfl : g = q := Option.some.inj hq
    exact hgb
  (conv => whnf)
  refine load_blk hB3 rfl rfl ?_
  (conv => whnf)
  refine load_blk hB3 rfl rfl ?_
  (conv => whnf)
  refine new_step (.cells #[.int .u8 ((UInt8.ofNat (d.toNat % 256)).toNat : Int), .int .u8 ((UInt8.ofNat l.length).toNat : Int)] 5) ?_ fun q hq => ?_
  · rw [← u8_val d d0 (by omega)]
    have : ((UInt8.ofNat l.length).toNat : Int) = IntKind.u8.wrap (l.length : Int) := by
      rw [u8_val (l.length : Int) (by omega) (by omega), Int.toNat_natCast, Nat.mod_eq_of_lt (by omega : l.length < 256)]
    rw [this]
    rfl
  (conv => whnf)
  refine append_mine tab_ok rfl rfl rfl rfl rfl ⟨_, rfl, fun k h => by cases h⟩ ⟨_, rfl, rfl⟩ (by decide) (hm3.mono (Ext.new hq _)) (m := 2) (ys := [.int .u8 ((UInt8.ofNat (d.toNat % 256)).toNat : Int), .int .u8 ((UInt8.ofNat l.length).toNat : Int)]) (y := .slice (some ⟨q, 0, none⟩) 2 2) ⟨rfl, .inl ⟨_, _, rfl, fun i u hi => ⟨_, rfl, ?_⟩⟩⟩ (fun u hu => by simp at hu; rcases hu with rfl | rfl <;> rfl) (by decide) fun s' F4 h1 h2 => ?_
  · rw [add_plain, Heap.cell_at (Heap.put_same _ _ _), Nat.zero_add]
    simpa using hi
  have hB4 := h2 b _ (((Ext.new hq _) b _ hB3)) (fun e => hne3 b e rfl)
  have hm4 : Bs F4 s' (headS d l.length) := Bs.of_mine h1
  have hE4 := h1.ext
  obtain ⟨A4, c4, rfl, hc4, hr4⟩ := id hm4
  (conv => whnf)
  refine load_blk hB4 rfl rfl ?_
  (conv => whnf)
  refine load_blk hB4 rfl rfl ?_
  (conv => whnf)
  refine load_blk hB4 rfl rfl ?_
  (conv => whnf)
  refine new_step (.cells #[.int .i64 f, .int .i64 n, .int .i64 k] 3) rfl fun p hp => ?_
  (conv => whnf)
  have hE5 := hE4.trans (Ext.new hp (.cells #[.int .i64 f, .int .i64 n, .int .i64 k] 3))
  have hB5 := (Ext.new hp (.cells #[.int .i64 f, .int .i64 n, .int .i64 k] 3)) b _ hB4
  have hr5 : RowAt (F4.put p (.cells #[.int .i64 f, .int .i64 n, .int .i64 k] 3)) (some ⟨p, 0, none⟩) (([f, n, k] : List Int).map (.int .i64)) := fun j v hj => ⟨_, rfl, by
    rw [add_plain, Heap.cell_at (Heap.put_same _ _ _), Nat.zero_add]
    simpa using hj⟩
  refine call_of (words (headS d l.length) _ [f, n, k] (some ⟨p, 0, none⟩) 3 _ (hm4.mono (Ext.new hp _)) hr5 (by show 6 + 4 * 3 ≤ 90000; decide)) ?_
  rintro v6 F6 ⟨hb6, hE6⟩
  have hB6 := hE6 b _ hB5
  replace hE6 := hE5.trans hE6
  (conv => whnf)
  refine load_blk hB6 rfl rfl ?_
  (conv => whnf)
  have hl6 := putAll_len [f, n, k] (headS d l.length)
  refine call_of (words _ _ l A c _ hb6 (hr.mono hE6) (by
    have h3 : (headS d l.length).length = 6 := rfl
    have h4 : ([f, n, k] : List Int).length = 3 := rfl
    omega)) ?_
  rintro v7 F7 ⟨hb7, hE7⟩
  replace hE7 := hE6.trans hE7
  change Bs F7 v7 (bodyS d f n k l) at hb7
  have hbl := body_len d f n k l l1
  have hpl := page_len d f n k l l1
  have hpg : pageS d f n k l = bodyS d f n k l ++ List.replicate (240 - (bodyS d f n k l).length) 0 := rfl
  generalize pageS d f n k l = pg at hpl hpg ⊢
  generalize bodyS d f n k l = bd at hb7 hbl hpg
  obtain ⟨A7, c7, rfl, hc7, hr7⟩ := hb7
  (conv => whnf)
  refine make_one tab_ok 240 240 rfl rfl rfl rfl rfl ⟨rfl, by decide, _, rfl, rfl⟩ (Nat.le_refl _) (by decide) fun u hu => ?_
  (conv => whnf)
  refine copy_all tab_ok rfl rfl rfl rfl rfl (m := bd.length) (y := .slice A7 bd.length c7) (ys := bytesOf bd) ⟨by simp [bytesOf], .inl ⟨_, _, rfl, hr7.mono (Ext.new hu _)⟩⟩ (by omega) (Heap.put_same _ _ _) (.inl (Nat.le_refl 0)) (by simp; omega) (fun v hv => by
    obtain ⟨x, _, rfl⟩ := List.mem_map.1 hv
    rfl) ?_
  (conv => whnf)
  have hcells : putL (List.replicate 240 (Value.int .u8 0)).toArray.toList 0 (bytesOf bd) = bytesOf pg := by
    rw [List.toList_toArray, putL_eq _ _ _ (by simp [bytesOf]; omega), hpg, List.take_zero, List.nil_append, List.drop_replicate]
    unfold bytesOf
    rw [List.map_append, List.map_replicate, List.length_map, Nat.zero_add]
    rfl
  have hFu : F u = none := by
    cases e : F u with
    | none => rfl
    | some o => rw [hE7 u o e] at hu; cases hu
  refine ⟨⟨.slice (some ⟨u, 0, none⟩) 240 240, rfl, some ⟨u, 0, none⟩, 240, by rw [hpl], by omega, fun j v hj => ⟨_, rfl, ?_⟩⟩, fun q o hq => ?_⟩
  · rw [add_plain, Heap.cell_at (Heap.put_same _ _ _), Nat.zero_add, hcells]
    simpa using hj
  · have hqu : q ≠ u := fun e => by rw [e, hFu] at hq; cases hq
    show ((F7.put u _).put u _) q = _
    rw [Heap.put_other _ _ hqu, Heap.put_other _ _ hqu]
    exact hE7 q o hq
theorem putNo (d f n k : Int) (l : List Int) (A : Option Addr) (c : Nat) (F : Heap) (hr : RowAt F A (l.map (.int .i64))) (hl : l.length ≤ 1000) (hm : mayB d f n k l = false) :
    FnK Try.prog 10 #[.agg #[.int .i64 d, .int .i64 f, .int .i64 n, .int .i64 k, .slice A l.length c]] F (fun v F' => v = .tuple #[.slice none 0 0, .int .i64 1] ∧ Ext F F') := by
  have hM := fun G hg => may d f n k l A c G hg hl
  rw [hm] at hM
  (refine fn_walk tab_ok Try.func10 rfl rfl rfl rfl ?_; (conv => whnf))
  refine new_step (.cells #[.int .i64 d, .int .i64 f, .int .i64 n, .int .i64 k, .slice A l.length c] 26) rfl fun b hb => ?_
  have hE : Ext F (F.put b (.cells #[.int .i64 d, .int .i64 f, .int .i64 n, .int .i64 k, .slice A l.length c] 26)) := Ext.new hb _
  have hB := Heap.put_same F b (.cells #[.int .i64 d, .int .i64 f, .int .i64 n, .int .i64 k, .slice A l.length c] 26)
  generalize F.put b _ = F1 at hE hB ⊢
  (conv => whnf)
  refine ⟨⟨_, _, _, hB, rfl, Nat.le_refl 5, ?_⟩⟩
  (conv => whnf)
  refine call_of (hM F1 (hr.mono hE)) ?_
  rintro v F2 ⟨rfl, hE2⟩
  (conv => whnf)
  exact ⟨rfl, hE.trans hE2⟩
end Go.Proofs.Ytkahpaipciooiaa.Al

/- Replies: the reference's Decode, over what is known of memory. -/
import Derived.Test.YtkahpaipciooiacRepC
namespace Go.Proofs.Ytkahpaipciooiac.Al
open Go Go.Al Go.Proofs Go.RowKit
set_option maxHeartbeats 8000000
set_option maxRecDepth 100000
set_option linter.unusedVariables false
set_option linter.unusedSimpArgs false
theorem getN_drop (b : List UInt8) (i j m : Nat) (hm : 1 ≤ m) : getN (b.drop i) j m = getN b (i + j) m := by
  unfold getN
  rw [List.length_drop, List.drop_drop]
  by_cases h : i + j + m ≤ b.length
  · rw [if_pos (by omega), if_pos h]
  · rw [if_neg (by omega), if_neg h]
def rN (b : List UInt8) : Nat := (getN b 1 2).toNat
def rM (b : List UInt8) : Nat := (getN b (3 + 8 * rN b) 2).toNat
def okF (b : List UInt8) : Prop := 5 ≤ b.length ∧ 3 + 8 * rN b + 2 ≤ b.length ∧ b.length = 3 + 8 * rN b + 2 + rM b
theorem cnt1 (b : List UInt8) : cntN (b.drop 1) = rN b := by unfold cntN rN; rw [getN_drop b 1 0 2 (by decide)]
theorem rest2_eq (b : List UInt8) : rest2 b = b.drop (3 + 8 * rN b) := by
  unfold rest2
  rw [cnt1, List.drop_drop, List.drop_drop]
  congr 1
  omega
theorem cnt2 (b : List UInt8) : cntN (rest2 b) = rM b := by unfold cntN rM; rw [rest2_eq, getN_drop b _ 0 2 (by decide)]; rfl
theorem okF_iff (b : List UInt8) : okF b ↔ okR b := by
  unfold okF okR cntOk rest3
  rw [cnt1, cnt2, rest2_eq]
  simp only [List.length_drop]
  omega
def nsF (b : List UInt8) (i : Nat) : List Int := (List.range i).map fun j => getN b (3 + 8 * j) 8
theorem nsF_succ (b : List UInt8) (i : Nat) : nsF b (i + 1) = nsF b i ++ [getN b (3 + 8 * i) 8] := by unfold nsF; rw [List.range_succ]; simp
theorem decF {b : List UInt8} (h : okF b) : decR b = ⟨((b.getD 0 0).toNat : Int), nsF b (rN b), b.drop (3 + 8 * rN b + 2)⟩ := by
  obtain ⟨h1, h2, h3⟩ := h
  unfold decR
  congr 1
  · rw [cnt1]
    unfold nsU nsF
    apply List.map_congr_left
    intro j hj
    have hj : j < rN b := List.mem_range.1 hj
    have hc : chk (numsB b) j = (b.drop (3 + 8 * j)).take 8 := by
      unfold chk numsB
      rw [cnt1, List.drop_drop, List.drop_take, List.take_take, List.drop_drop, Nat.min_eq_left (by omega)]
    unfold getN
    rw [hc, List.drop_zero, List.take_take, Nat.min_self, if_pos (by rw [List.length_take, List.length_drop]; omega), if_pos (by omega)]
  · unfold textB
    rw [cnt2, rest2_eq, List.drop_drop, Nat.mul_one]
    exact List.take_of_length_le (by rw [List.length_drop]; omega)
theorem rdecode (b : List UInt8) (A : Option Addr) (c : Nat) (F : Heap) (hr : RowAt F A (bytesOf b)) (hl : b.length ≤ 10000) (hc : b.length ≤ c) :
    FnK Try.prog 11 #[.slice A b.length c] F (fun v F' => DecR b v F' ∧ Ext F F') := by
  have no : ∀ F' : Heap, ¬ okF b → Ext F F' → DecR b (.tuple #[.agg (rpC 0 (.slice none 0 0) []), .int .i64 4]) F' ∧ Ext F F' := fun F' h hX => ⟨.inr ⟨fun e => h ((okF_iff b).2 e), rfl⟩, hX⟩
  have yes : okF b → ∀ (F' : Heap) A' c', RowAt F' A' ((nsF b (rN b)).map (.int .i64)) → (nsF b (rN b)).length ≤ c' → Ext F F' → DecR b (.tuple #[.agg (rpC (b.getD 0 0).toNat (.slice A' (nsF b (rN b)).length c') (b.drop (3 + 8 * rN b + 2))), .int .i64 0]) F' ∧ Ext F F' := fun h F' A' c' h1 h2 hX => by
    refine ⟨.inl ⟨(okF_iff b).1 h, A', c', ?_, ?_, ?_⟩, hX⟩
    · rw [decF h]
    · rw [decF h]; exact h1
    · rw [decF h]; exact h2
  have hof : okF b ↔ 5 ≤ b.length ∧ 3 + 8 * rN b + 2 ≤ b.length ∧ b.length = 3 + 8 * rN b + 2 + rM b := Iff.rfl
  have hnl : (nsF b (rN b)).length = rN b := by unfold nsF; simp
  have hg1 := fun G hg => rgetG 2 (.inr (.inl rfl)) b A c 1 G hg (by omega) hc (by decide)
  obtain ⟨hn1, hn2⟩ := getN2 b 1
  have hcn : rN b = (getN b 1 2).toNat := rfl
  rw [← hcn] at hn1 hn2
  rw [hn1] at hg1
  have hg2 := fun G hg => rgetG 2 (.inr (.inl rfl)) b A c (3 + 8 * rN b) G hg (by omega) hc (by omega)
  obtain ⟨hm1, hm2⟩ := getN2 b (3 + 8 * rN b)
  have hcm : rM b = (getN b (3 + 8 * rN b) 2).toNat := rfl
  rw [← hcm] at hm1 hm2
  have hge : getE b (3 + 8 * rN b) 2 = if 3 + 8 * rN b + 2 ≤ b.length then 0 else 3 := rfl
  rw [hm1] at hg2
  clear hn1 hcn hm1 hcm
  have hb0 : 1 ≤ b.length → (bytesOf b)[0]? = some (.int .u8 (b.getD 0 0).toNat) := fun h => by
    unfold bytesOf
    rw [List.getElem?_map, List.getElem?_eq_getElem (by omega : 0 < b.length)]
    simp [List.getD, List.getElem?_eq_getElem (by omega : 0 < b.length)]
  have hx := wrap_eq (x := ((b.getD 0 0).toNat : Int)) (by omega) (by have := (b.getD 0 0).toNat_lt; omega)
  have hns := nsF_succ b
  have hn0 : nsF b 0 = [] := rfl
  generalize ((b.getD 0 0).toNat : Int) = x at hb0 hx yes
  generalize getE b 1 2 = e1 at hg1
  generalize getE b (3 + 8 * rN b) 2 = e2 at hg2 hge
  have hdl : (b.drop (3 + 8 * rN b + 2)).length = b.length - (3 + 8 * rN b + 2) := List.length_drop
  have hcut := fun G (hg : RowAt G A (bytesOf b)) (h : 3 + 8 * rN b + 2 ≤ b.length) l (hlo : l = 3 + 8 * rN b + 2) => row_cut3 (3 + 8 * rN b + 2) (b.length - (3 + 8 * rN b + 2)) c l hg hlo (by omega) (by omega)
  have htt : (b.drop (3 + 8 * rN b + 2)).take (b.length - (3 + 8 * rN b + 2)) = b.drop (3 + 8 * rN b + 2) := List.take_of_length_le (by rw [List.length_drop]; exact Nat.le_refl _)
  rw [htt] at hcut
  clear htt
  generalize b.drop (3 + 8 * rN b + 2) = tx at hcut yes hdl
  generalize okF b = ok at hof no yes
  generalize rM b = m at hg2 hm2 hof
  generalize hN : rN b = N at hg1 hn2 hg2 hge hof yes hnl hcut hdl
  have hw1 : IntKind.i64.wrap (3 + IntKind.i64.wrap (8 * (N : Int))) = ((3 + 8 * N : Nat) : Int) := by rw [wrap_eq (x := 8 * (N : Int)) (by omega) (by omega), wrap_eq (by omega) (by omega)]; omega
  rw [← hw1] at hg2
  (refine fn_walk tab_ok Try.func11 rfl rfl rfl rfl ?_; (conv => whnf))
  refine new_step (zeroR) rfl fun w h0_w => ?_
  have hE_w := Ext.new h0_w (zeroR)
  have hB_w := Heap.put_same F w (zeroR)
  generalize F.put w _ = F1 at hE_w hB_w ⊢
  have hr1 := hr.mono hE_w
  (conv => whnf)
  refine cond_split (fun h => ?_) (fun h => ?_)
  · have h : decide ((b.length : Int) < 5) = true := h
    have h := of_decide_eq_true h
    (conv => whnf)
    refine store_step w 0 _ (rpC 0 (.slice none 0 0) []) rfl hB_w rfl rfl (.inl (Nat.le_refl 0)) ozR ?_
    (conv => whnf)
    refine res_cells tab_ok rfl rfl (Heap.put_same _ _ _) rfl ?_
    (conv => whnf)
    exact no _ (fun h' => by have := (hof.1 h').1; omega) (hE_w.put h0_w _)
  have h : decide ((b.length : Int) < 5) = false := h
  have h5 := of_decide_eq_false h
  have hb0 := hb0 (by omega)
  obtain ⟨ad, rfl⟩ := hr.some (by rw [bytes_len]; omega)
  clear h
  (conv => whnf)
  refine call_of (hg1 F1 hr1) ?_
  rintro v F1 ⟨rfl, rfl⟩
  (conv => whnf)
  refine call_of (hg2 F1 hr1) ?_
  rintro v F1 ⟨rfl, rfl⟩
  refine short [0, 2, 4, 6, 28] [.slice (some ad) b.length c, .pointer (some ⟨w, 0, none⟩), .int .i64 (N : Int), .int .i64 (IntKind.i64.wrap (3 + IntKind.i64.wrap (8 * (N : Int)))), .tuple #[.int .i64 (m : Int), .int .i64 e2]] rfl fun ρ => ?_
  have hw2 : IntKind.i64.wrap (IntKind.i64.wrap (3 + IntKind.i64.wrap (8 * (N : Int))) + 2) = ((3 + 8 * N + 2 : Nat) : Int) := by rw [hw1, wrap_eq (by omega) (by omega)]; omega
  have hw3 : IntKind.i64.wrap (IntKind.i64.wrap (IntKind.i64.wrap (3 + IntKind.i64.wrap (8 * (N : Int))) + 2) + (m : Int)) = ((3 + 8 * N + 2 + m : Nat) : Int) := by rw [hw2, wrap_eq (by omega) (by omega)]; omega
  (conv => whnf)
  refine cond_split (fun h => ?_) (fun h => ?_)
  case refine_2 =>
    have h : (!(e2 != 0)) = false := h
    have h2 : ¬ 3 + 8 * N + 2 ≤ b.length := fun h2 => by rw [if_pos h2] at hge; rw [hge] at h; exact absurd h (by decide)
    (conv => whnf)
    refine store_step w 0 _ (rpC 0 (.slice none 0 0) []) rfl hB_w rfl rfl (.inl (Nat.le_refl 0)) ozR ?_
    (conv => whnf)
    refine res_cells tab_ok rfl rfl (Heap.put_same _ _ _) rfl ?_
    (conv => whnf)
    exact no _ (fun h' => h2 (hof.1 h').2.1) (hE_w.put h0_w _)
  have h : (!(e2 != 0)) = true := h
  have g2 : 3 + 8 * N + 2 ≤ b.length := Classical.byContradiction fun h2 => by rw [if_neg h2] at hge; rw [hge] at h; exact absurd h (by decide)
  clear h hge hg2 hg1
  (conv => whnf)
  refine cond_split (fun h => ?_) (fun h => ?_)
  · have h : ((b.length : Int) != IntKind.i64.wrap (IntKind.i64.wrap (IntKind.i64.wrap (3 + IntKind.i64.wrap (8 * (N : Int))) + 2) + (m : Int))) = true := h
    rw [hw3] at h
    have h2 : ¬ b.length = 3 + 8 * N + 2 + m := fun e => by rw [e] at h; simp at h
    (conv => whnf)
    refine store_step w 0 _ (rpC 0 (.slice none 0 0) []) rfl hB_w rfl rfl (.inl (Nat.le_refl 0)) ozR ?_
    (conv => whnf)
    refine res_cells tab_ok rfl rfl (Heap.put_same _ _ _) rfl ?_
    (conv => whnf)
    exact no _ (fun h' => h2 (hof.1 h').2.2) (hE_w.put h0_w _)
  have h : ((b.length : Int) != IntKind.i64.wrap (IntKind.i64.wrap (IntKind.i64.wrap (3 + IntKind.i64.wrap (8 * (N : Int))) + 2) + (m : Int))) = false := h
  rw [hw3] at h
  have g3 : b.length = 3 + 8 * N + 2 + m := by have := bne_eq_false_iff_eq.1 h; omega
  have hok : ok := hof.2 ⟨by omega, g2, g3⟩
  replace yes := yes hok
  clear h hw3 hof no
  have hn2' : Int.toNat (IntKind.i64.wrap (IntKind.i64.wrap (3 + IntKind.i64.wrap (8 * (N : Int))) + 2)) = 3 + 8 * N + 2 := by rw [hw2]; rfl
  obtain ⟨At, hAt⟩ : ∃ A', (if c = Int.toNat (IntKind.i64.wrap (IntKind.i64.wrap (3 + IntKind.i64.wrap (8 * (N : Int))) + 2)) then some ad else (some ad).map (·.add (Int.toNat (IntKind.i64.wrap (IntKind.i64.wrap (3 + IntKind.i64.wrap (8 * (N : Int))) + 2)) * 1))) = A' := ⟨_, rfl⟩
  have hRt := hcut F1 hr1 g2 _ hn2'
  rw [hAt] at hRt
  have hcell0 : F1.cell? (ad.add 0) = some (.int .u8 x) := hr1.cell hb0
  (conv => whnf)
  refine draw_cut (fun env' F' => ∃ u, F1 u = none ∧ F' u = some (rpO x (.slice none 0 0) tx) ∧ Ext F1 F' ∧ env' 0 = .slice (some ad) b.length c ∧ env' 2 = .pointer (some ⟨w, 0, none⟩) ∧ env' 4 = .int .i64 (N : Int) ∧ env' 9 = .pointer (some ⟨u, 0, none⟩)) (fun K hK => ?_) ?_
  · refine draw_tree tab_ok (by kernel_rfl) [2] (DT.row [0, 1, 2, 3, 4, 5, 6, 7] (.fork (DT.row [8, 9, 10, 11] .nil) (DT.row [10, 8, 9, 11] .nil))) (by kernel_rfl) ?_
    ((conv => whnf); repeat (first | (apply load_at; (conv => lhs; whnf); (with_reducible assumption); rfl; (conv => whnf)) | (apply loads_at; (conv => lhs; whnf); (with_reducible assumption); rfl; (conv => whnf)) | (refine ⟨⟨by omega, by omega⟩, ?_⟩; (conv => whnf))))
    refine load_step (v := .int .u8 x) hcell0 ?_
    ((conv => whnf); repeat (first | (apply load_at; (conv => lhs; whnf); (with_reducible assumption); rfl; (conv => whnf)) | (apply loads_at; (conv => lhs; whnf); (with_reducible assumption); rfl; (conv => whnf)) | (refine ⟨⟨by omega, by omega⟩, ?_⟩; (conv => whnf))))
    refine ⟨?_, ?_⟩
    · (conv => whnf)
      refine conv_str (a := At) (c := c - (3 + 8 * N + 2)) tab_ok tx rfl ?hq rfl rfl rfl hRt ?_
      case hq =>
        conv => lhs; whnf
        exact slice_eq hAt (by rw [hn2', hdl]) (by rw [hn2'])
      refine ⟨Ext.refl _, ?_⟩
      (conv => whnf)
      refine new_step zeroR rfl fun u hu => ?_
      have hU := Heap.put_same F1 u zeroR
      have hX := Ext.new hu zeroR
      refine ⟨hX, ?_⟩
      (conv => whnf)
      refine store_step u 0 _ (rpC x (.slice none 0 0) tx) rfl hU (congrArg (fun z => #[Value.int .i64 z, .slice none 0 0, .string ⟨tx.toArray⟩]) hx) rfl (.inl (Nat.le_refl 0)) (osR _ _ _ _ _) ?_
      have hX2 : Ext F1 ((F1.put u zeroR).put u (rpO x (.slice none 0 0) tx)) := ext_put_put hu
      refine ⟨hX2, ?_⟩
      (conv => whnf)
      exact hK _ _ ⟨u, hu, Heap.put_same _ _ _, hX2, rfl, rfl, rfl, rfl⟩
    · (conv => whnf)
      refine new_step zeroR rfl fun u hu => ?_
      have hU := Heap.put_same F1 u zeroR
      have hX := Ext.new hu zeroR
      refine ⟨hX, ?_⟩
      (conv => whnf)
      refine conv_str (a := At) (c := c - (3 + 8 * N + 2)) tab_ok tx rfl ?hq rfl rfl rfl (hRt.mono hX) ?_
      case hq =>
        conv => lhs; whnf
        exact slice_eq hAt (by rw [hn2', hdl]) (by rw [hn2'])
      refine ⟨hX, ?_⟩
      (conv => whnf)
      refine store_step u 0 _ (rpC x (.slice none 0 0) tx) rfl hU (congrArg (fun z => #[Value.int .i64 z, .slice none 0 0, .string ⟨tx.toArray⟩]) hx) rfl (.inl (Nat.le_refl 0)) (osR _ _ _ _ _) ?_
      have hX2 : Ext F1 ((F1.put u zeroR).put u (rpO x (.slice none 0 0) tx)) := ext_put_put hu
      refine ⟨hX2, ?_⟩
      (conv => whnf)
      exact hK _ _ ⟨u, hu, Heap.put_same _ _ _, hX2, rfl, rfl, rfl, rfl⟩
  rintro env' F2 ⟨u, hu, hU2, hE2, q0, q2, q4, q9⟩
  refine short [0, 2, 4, 9] [.slice (some ad) b.length c, .pointer (some ⟨w, 0, none⟩), .int .i64 (N : Int), .pointer (some ⟨u, 0, none⟩)] (by simp only [List.map_cons, List.map_nil, q0, q2, q4, q9]) fun ρ => ?_
  clear q0 q2 q4 q9 hn2' hAt hRt hcut hcell0 hx hw1 hw2
  have hwu : w ≠ u := fun e => by rw [e] at hB_w; rw [hB_w] at hu; cases hu
  have hEG : Ext F1 (lessL F2 [u]) := ext_lessL hE2 (fun m hm => by rw [List.mem_singleton.1 hm]; exact hu)
  have hGu : (lessL F2 [u]) u = none := lessL_none (by simp)
  have hGw : (lessL F2 [u]) w = some zeroR := hEG _ _ hB_w
  have hG2 : Ext (lessL F2 [u]) F2 := lessL_ext _ _
  generalize lessL F2 [u] = G at hEG hGu hGw hG2
  have hrG := hr1.mono hEG
  ((conv => whnf); repeat (first | (apply load_at; (conv => lhs; whnf); (with_reducible assumption); rfl; (conv => whnf)) | (apply loads_at; (conv => lhs; whnf); (with_reducible assumption); rfl; (conv => whnf)) | (refine ⟨⟨by omega, by omega⟩, ?_⟩; (conv => whnf))))
  refine loop_slots [0, 2, 4, 9, 10] (fun mm vs F' => ∃ (i : Nat) (S : Value), i + mm = N ∧ vs = [.slice (some ad) b.length c, .pointer (some ⟨w, 0, none⟩), .int .i64 (N : Int), .pointer (some ⟨u, 0, none⟩), .int .i64 (i : Int)] ∧ Mine G F' S 3 1 i ((nsF b i).map (.int .i64)) ∧ F' u = some (rpO x S tx)) N ⟨0, .slice none 0 0, by omega, rfl, by rw [hn0]; exact Mine.nil _ _ _ _ hG2, hU2⟩ ?_
  clear hU2 hE2 hG2 hr1 hr
  rintro mm vs F3 ρ ⟨i, S, him, rfl, hM, hU⟩
  obtain ⟨A4, c4, rfl, hc4, hR4⟩ := hM.own.row
  (conv => whnf)
  refine cond_split (fun h => ?_) (fun h => ?_)
  · have hi : i < N := by have := of_decide_eq_true h; omega
    have hwi : IntKind.i64.wrap (3 + IntKind.i64.wrap (8 * (i : Int))) = ((3 + 8 * i : Nat) : Int) := by rw [wrap_eq (x := 8 * (i : Int)) (by omega) (by omega), wrap_eq (by omega) (by omega)]; omega
    have hget := rgetG 8 (.inr (.inr (.inr rfl))) b (some ad) c (3 + 8 * i) F3 (hrG.mono hM.ext) (by omega) hc (by omega)
    rw [← hwi] at hget
    have hst := hns i
    generalize getN b (3 + 8 * i) 8 = num at hget hst
    generalize getE b (3 + 8 * i) 8 = e3 at hget
    (conv => whnf)
    refine call_of hget ?_
    rintro v F3 ⟨rfl, rfl⟩
    ((conv => whnf); repeat (first | (apply load_at; (conv => lhs; whnf); (with_reducible assumption); rfl; (conv => whnf)) | (apply loads_at; (conv => lhs; whnf); (with_reducible assumption); rfl; (conv => whnf)) | (refine ⟨⟨by omega, by omega⟩, ?_⟩; (conv => whnf))))
    refine new_step (.cells #[.int .i64 num] 3) rfl fun y h0_y => ?_
    have hE_y := Ext.new h0_y (.cells #[.int .i64 num] 3)
    have hB_y := Heap.put_same F3 y (.cells #[.int .i64 num] 3)
    generalize F3.put y _ = F6 at hE_y hB_y ⊢
    have hU6 := hE_y _ _ hU
    have hM6 := hM.mono hE_y
    (conv => whnf)
    refine append_mine tab_ok rfl rfl rfl rfl rfl ⟨_, rfl, fun k h => by cases h⟩ ⟨_, rfl, rfl⟩ (by decide) hM6 (m := 1) (ys := [.int .i64 num]) (y := .slice (some ⟨y, 0, none⟩) 1 1) ⟨rfl, .inl ⟨_, _, rfl, row_blk hB_y⟩⟩ (one_int _ _) (by show 2 * (i + 1) * 8 ≤ _; omega) fun S7 F7 hM7 hk7 => ?_
    have hU7 := hk7 _ _ hU6 (hM6.own.blk_ne hU6 int_reply)
    obtain ⟨A7, c7, rfl, hc7, hR7⟩ := hM7.own.row
    (conv => whnf)
    refine store_step u 1 _ (rpC x (.slice A7 (i + 1) c7) tx) rfl hU7 rfl rfl (.inl (Nat.le_refl 0)) (one_slice _ _ _) ?_
    have hU8 := Heap.put_same F7 u (rpO x (.slice A7 (i + 1) c7) tx)
    have hM8 := hM7.put hGu (hM7.own.blk_ne hU7 int_reply) (rpO x (.slice A7 (i + 1) c7) tx)
    generalize F7.put u _ = F8 at hU8 hM8 ⊢
    (conv => whnf)
    refine ⟨mm - 1, by omega, i + 1, _, by omega, ?_, ?_, hU8⟩
    · rw [← wrap_succ (j := i) (by omega)]
      rfl
    · rw [hst, List.map_append]
      exact hM8
  · have hi : ¬ i < N := by have := of_decide_eq_false h; omega
    obtain rfl : i = N := by omega
    have hW := hM.ext _ _ hGw
    ((conv => whnf); repeat (first | (apply load_at; (conv => lhs; whnf); (with_reducible assumption); rfl; (conv => whnf)) | (apply loads_at; (conv => lhs; whnf); (with_reducible assumption); rfl; (conv => whnf)) | (refine ⟨⟨by omega, by omega⟩, ?_⟩; (conv => whnf))))
    refine store_step w 0 _ (rpC x (.slice A4 i c4) tx) rfl hW rfl rfl (.inl (Nat.le_refl 0)) (osR _ _ _ _ _) ?_
    have hbw := hM.own.blk_ne hW int_reply
    have hR6 := rowAt_keepq hR4 (Keeps.put F3 w (rpO x (.slice A4 i c4) tx)) (fun a ha e => hbw (by subst ha; rw [← e]; rfl))
    have hX6 : Ext F (F3.put w (rpO x (.slice A4 i c4) tx)) := (hE_w.trans (hEG.trans hM.ext)).put h0_w _
    (conv => whnf)
    refine res_cells tab_ok rfl rfl (Heap.put_same _ _ _) rfl ?_
    have hfin := yes _ A4 c4 hR6 (by rw [hnl]; exact hc4) hX6
    rw [hnl] at hfin
    (conv => whnf)
    exact hfin
end Go.Proofs.Ytkahpaipciooiac.Al

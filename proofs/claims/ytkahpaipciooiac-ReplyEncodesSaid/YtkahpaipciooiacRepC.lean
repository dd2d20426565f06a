/- Replies: reply.Decode, over what is known of memory. -/
import Derived.Test.YtkahpaipciooiacRepB
namespace Go.Proofs.Ytkahpaipciooiac.Al
open Go Go.Al Go.Proofs Go.RowKit
set_option maxHeartbeats 8000000
set_option maxRecDepth 100000
set_option linter.unusedVariables false
set_option linter.unusedSimpArgs false
def numsB (b : List UInt8) : List UInt8 := ((b.drop 1).drop 2).take (cntN (b.drop 1) * 8)
def rest2 (b : List UInt8) : List UInt8 := ((b.drop 1).drop 2).drop (cntN (b.drop 1) * 8)
def textB (b : List UInt8) : List UInt8 := ((rest2 b).drop 2).take (cntN (rest2 b) * 1)
def rest3 (b : List UInt8) : List UInt8 := ((rest2 b).drop 2).drop (cntN (rest2 b) * 1)
def okR (b : List UInt8) : Prop := 1 ≤ b.length ∧ cntOk (b.drop 1) 8 ∧ cntOk (rest2 b) 1 ∧ (rest3 b).length = 0
def nsU (l : List UInt8) (i : Nat) : List Int := (List.range i).map fun j => getN (chk l j) 0 8
def decR (b : List UInt8) : RD := ⟨((b.getD 0 0).toNat : Int), nsU (numsB b) (cntN (b.drop 1)), textB b⟩
abbrev zeroR : Obj := rpO 0 (.slice none 0 0) []
theorem ozR : ∀ v ∈ [Value.int .i64 0, .slice none 0 0, .string ⟨([] : List UInt8).toArray⟩], v.oneCell' = true := by simp [Value.oneCell']
theorem osR (k : Int) (A : Option Addr) (n c : Nat) (t : List UInt8) : ∀ v ∈ [Value.int .i64 k, .slice A n c, .string ⟨t.toArray⟩], v.oneCell' = true := by simp [Value.oneCell']
/-- What Decode hands back. -/
def DecR (b : List UInt8) (v : Value) (F : Heap) : Prop :=
  (okR b ∧ ∃ A c, v = .tuple #[.agg (rpC (decR b).k (.slice A (decR b).ns.length c) (decR b).t), .int .i64 0] ∧ RowAt F A ((decR b).ns.map (.int .i64)) ∧ (decR b).ns.length ≤ c) ∨ (¬ okR b ∧ v = .tuple #[.agg (rpC 0 (.slice none 0 0) []), .int .i64 4])
theorem nsU_succ (l : List UInt8) (i : Nat) : nsU l (i + 1) = nsU l i ++ [getN (chk l i) 0 8] := by unfold nsU; rw [List.range_succ]; simp
theorem nsU_len (l : List UInt8) (i : Nat) : (nsU l i).length = i := by unfold nsU; simp
theorem int_reply : (3 : Nat) ≠ 27 := by decide
theorem decode (b : List UInt8) (A : Option Addr) (c : Nat) (F : Heap) (hr : RowAt F A (bytesOf b)) (hl : b.length ≤ 10000) (hc : b.length ≤ c) :
    FnK Try.prog 10 #[.slice A b.length c] F (fun v F' => DecR b v F' ∧ Ext F F') := by
  have no : ∀ F' : Heap, ¬ okR b → Ext F F' → DecR b (.tuple #[.agg (rpC 0 (.slice none 0 0) []), .int .i64 4]) F' ∧ Ext F F' := fun F' h hX => ⟨.inr ⟨h, rfl⟩, hX⟩
  have hor : okR b ↔ 1 ≤ b.length ∧ cntOk (b.drop 1) 8 ∧ cntOk (rest2 b) 1 ∧ (rest3 b).length = 0 := Iff.rfl
  have hnl : cntOk (b.drop 1) 8 → (numsB b).length = 8 * cntN (b.drop 1) := fun h => by
    have := h.2
    unfold numsB
    rw [List.length_take]
    omega
  have hcnl : cntOk (b.drop 1) 8 → cntN (b.drop 1) ≤ 10000 := fun h => by
    have := h.2
    simp only [List.length_drop] at this
    omega
  have hl1 : (b.drop 1).length ≤ b.length := by rw [List.length_drop]; omega
  have hl2 : (rest2 b).length ≤ b.length := by unfold rest2; simp only [List.length_drop]; omega
  have htl : 1 ≤ b.length → (b.take 1).length = 1 := fun h => by rw [List.length_take]; omega
  have hb0 : 1 ≤ b.length → (bytesOf (b.take 1))[0]? = some (.int .u8 (b.getD 0 0).toNat) := fun h => by
    unfold bytesOf
    rw [List.getElem?_map, List.getElem?_take, if_pos (by decide), List.getElem?_eq_getElem (by omega : 0 < b.length)]
    simp [List.getD, List.getElem?_eq_getElem (by omega : 0 < b.length)]
  have p0 := fun G hg => part b A c 1 G hg hc (by omega) (by decide)
  have c8 := fun A1 c1 G hg hc1 => counted (b.drop 1) A1 c1 8 G hg hc1 (by omega) (by decide)
  rw [show ((b.drop 1).drop 2).take (cntN (b.drop 1) * 8) = numsB b from rfl, show ((b.drop 1).drop 2).drop (cntN (b.drop 1) * 8) = rest2 b from rfl] at c8
  have cc := fun A1 c1 G hg hc1 => counted (rest2 b) A1 c1 1 G hg hc1 (by omega) (by decide)
  rw [show ((rest2 b).drop 2).take (cntN (rest2 b) * 1) = textB b from rfl, show ((rest2 b).drop 2).drop (cntN (rest2 b) * 1) = rest3 b from rfl] at cc
  have hx := wrap_eq (x := ((b.getD 0 0).toNat : Int)) (by omega) (by have := (b.getD 0 0).toNat_lt; omega)
  have hdec : decR b = ⟨((b.getD 0 0).toNat : Int), nsU (numsB b) (cntN (b.drop 1)), textB b⟩ := rfl
  have hDR : ∀ v F', DecR b v F' = ((okR b ∧ ∃ A c, v = .tuple #[.agg (rpC (decR b).k (.slice A (decR b).ns.length c) (decR b).t), .int .i64 0] ∧ RowAt F' A ((decR b).ns.map (.int .i64)) ∧ (decR b).ns.length ≤ c) ∨ (¬ okR b ∧ v = .tuple #[.agg (rpC 0 (.slice none 0 0) []), .int .i64 4])) := fun _ _ => rfl
  generalize ((b.getD 0 0).toNat : Int) = x at hb0 hx hdec
  generalize cntOk (b.drop 1) 8 = k8 at hor hnl hcnl c8
  generalize cntOk (rest2 b) 1 = k1 at hor cc
  generalize rest3 b = r3 at hor cc
  generalize rest2 b = r2 at hl2 c8 cc
  generalize cntN (b.drop 1) = m at hnl hcnl hdec
  generalize b.drop 1 = R1 at hl1 p0 c8
  generalize b.take 1 = tk at htl hb0 p0
  generalize numsB b = nb at hnl c8 hdec
  generalize textB b = tx at cc hdec
  generalize decR b = dr at hdec hDR
  generalize okR b = ok at no hor hDR
  generalize DecR b = DR at no hDR ⊢
  (refine fn_range tab_ok Try.func10 rfl rfl rfl rfl ?_; (conv => whnf))
  refine new_step (zeroR) rfl fun w h0_w => ?_
  have hE_w := Ext.new h0_w (zeroR)
  have hB_w := Heap.put_same F w (zeroR)
  generalize F.put w _ = F1 at hE_w hB_w ⊢
  have hr1 := hr.mono hE_w
  (conv => whnf)
  refine call_of (p0 F1 hr1) ?_
  rintro v F1 ⟨rfl, hv⟩
  rcases hv with ⟨g1, S, T, rfl, hS, hT⟩ | ⟨g1, rfl⟩
  case inr =>
    (conv => whnf)
    refine store_step w 0 _ (rpC 0 (.slice none 0 0) []) rfl hB_w rfl rfl (.inl (Nat.le_refl 0)) ozR ?_
    (conv => whnf)
    intro rs q1 q2
    (conv => whnf)
    refine res_cells tab_ok rfl rfl (lessD q2 (Heap.put_same _ _ _)) rfl ?_
    (conv => whnf)
    exact no _ (fun h => g1 (hor.1 h).1) (ext_lessL (hE_w.put h0_w _) q1)
  obtain ⟨A0, c0, hS0, hc0, hR0⟩ := hS
  rw [htl g1] at hS0
  obtain ⟨a0, rfl, hcell0⟩ : ∃ a0, A0 = some a0 ∧ F1.cell? (a0.add 0) = some (.int .u8 x) := hR0 0 (.int .u8 x) (hb0 g1)
  subst hS0
  obtain ⟨A1, c1, rfl, hc1, hR1⟩ := hT
  (conv => whnf)
  refine call_of (c8 A1 c1 F1 hR1 hc1) ?_
  rintro v F1 ⟨rfl, hv⟩
  rcases hv with ⟨g2, S, T, rfl, hS, hT⟩ | ⟨g2, rfl⟩
  case inr =>
    (conv => whnf)
    refine store_step w 0 _ (rpC 0 (.slice none 0 0) []) rfl hB_w rfl rfl (.inl (Nat.le_refl 0)) ozR ?_
    (conv => whnf)
    intro rs q1 q2
    (conv => whnf)
    refine res_cells tab_ok rfl rfl (lessD q2 (Heap.put_same _ _ _)) rfl ?_
    (conv => whnf)
    exact no _ (fun h => g2 (hor.1 h).2.1) (ext_lessL (hE_w.put h0_w _) q1)
  obtain ⟨An, cn, rfl, hcn, hRn⟩ := hS
  obtain ⟨A2, c2, rfl, hc2, hR2⟩ := hT
  (conv => whnf)
  refine call_of (cc A2 c2 F1 hR2 hc2) ?_
  rintro v F1 ⟨rfl, hv⟩
  rcases hv with ⟨g3, S, T, rfl, hS, hT⟩ | ⟨g3, rfl⟩
  case inr =>
    (conv => whnf)
    refine store_step w 0 _ (rpC 0 (.slice none 0 0) []) rfl hB_w rfl rfl (.inl (Nat.le_refl 0)) ozR ?_
    (conv => whnf)
    intro rs q1 q2
    (conv => whnf)
    refine res_cells tab_ok rfl rfl (lessD q2 (Heap.put_same _ _ _)) rfl ?_
    (conv => whnf)
    exact no _ (fun h => g3 (hor.1 h).2.2.1) (ext_lessL (hE_w.put h0_w _) q1)
  obtain ⟨At, ct, rfl, hct, hRt⟩ := hS
  obtain ⟨A3, c3, rfl, hc3, hR3⟩ := hT
  ((conv => whnf); repeat (first | (apply load_at; (conv => lhs; whnf); (with_reducible assumption); rfl; (conv => whnf)) | (apply loads_at; (conv => lhs; whnf); (with_reducible assumption); rfl; (conv => whnf)) | (refine ⟨⟨by omega, by omega⟩, ?_⟩; (conv => whnf))))
  refine cond_split (fun h => ?_) (fun h => ?_)
  · have h : decide ((r3.length : Int) > 0) = true := h
    have h := of_decide_eq_true h
    (conv => whnf)
    refine store_step w 0 _ (rpC 0 (.slice none 0 0) []) rfl hB_w rfl rfl (.inl (Nat.le_refl 0)) ozR ?_
    (conv => whnf)
    intro rs q1 q2
    (conv => whnf)
    refine res_cells tab_ok rfl rfl (lessD q2 (Heap.put_same _ _ _)) rfl ?_
    (conv => whnf)
    exact no _ (fun h' => by have := (hor.1 h').2.2.2; omega) (ext_lessL (hE_w.put h0_w _) q1)
  have h : decide ((r3.length : Int) > 0) = false := h
  have g4 := of_decide_eq_false h
  have hok : ok := hor.2 ⟨g1, g2, g3, by omega⟩
  replace hnl := hnl g2
  replace hcnl := hcnl g2
  clear h p0 c8 cc hR3 hc3 hR2 hc2 hR1 hc1 g3 g4 hor
  (conv => whnf)
  refine draw_cut (fun env' F' => ∃ u, F1 u = none ∧ F' u = some (rpO x (.slice none 0 0) tx) ∧ Ext F1 F' ∧ env' 2 = .pointer (some ⟨w, 0, none⟩) ∧ env' 7 = .slice An nb.length cn ∧ env' 9 = .pointer (some ⟨u, 0, none⟩)) (fun K hK => ?_) ?_
  · refine draw_tree tab_ok (by kernel_rfl) [2] (DT.row [0, 1, 2, 3, 4] (.fork (DT.row [5, 6, 7, 8] .nil) (DT.row [7, 5, 6, 8] .nil))) (by kernel_rfl) ?_
    ((conv => whnf); repeat (first | (apply load_at; (conv => lhs; whnf); (with_reducible assumption); rfl; (conv => whnf)) | (apply loads_at; (conv => lhs; whnf); (with_reducible assumption); rfl; (conv => whnf)) | (refine ⟨⟨by omega, by omega⟩, ?_⟩; (conv => whnf))))
    refine load_step (v := .int .u8 x) hcell0 ?_
    (conv => whnf)
    refine ⟨?_, ?_⟩
    · (conv => whnf)
      refine conv_str tab_ok tx rfl rfl rfl rfl rfl hRt ?_
      refine ⟨Ext.refl _, ?_⟩
      (conv => whnf)
      refine new_step zeroR rfl fun u hu => ?_
      have hU := Heap.put_same F1 u zeroR
      have hX := Ext.new hu zeroR
      refine ⟨hX, ?_⟩
      (conv => whnf)
      refine store_step u 0 _ (rpC x (.slice none 0 0) tx) rfl hU (congrArg (fun z => #[Value.int .i64 z, .slice none 0 0, .string ⟨tx.toArray⟩]) hx) rfl (.inl (Nat.le_refl 0)) (osR _ _ _ _ _) ?_
      have hX2 : Ext F1 ((F1.put u zeroR).put u (rpO x (.slice none 0 0) tx)) := ext_put_put hu
      refine ⟨hX2, ?_⟩
      (conv => whnf)
      exact hK _ _ ⟨u, hu, Heap.put_same _ _ _, hX2, rfl, rfl, rfl⟩
    · (conv => whnf)
      refine new_step zeroR rfl fun u hu => ?_
      have hU := Heap.put_same F1 u zeroR
      have hX := Ext.new hu zeroR
      refine ⟨hX, ?_⟩
      (conv => whnf)
      refine conv_str tab_ok tx rfl rfl rfl rfl rfl (hRt.mono hX) ?_
      refine ⟨hX, ?_⟩
      (conv => whnf)
      refine store_step u 0 _ (rpC x (.slice none 0 0) tx) rfl hU (congrArg (fun z => #[Value.int .i64 z, .slice none 0 0, .string ⟨tx.toArray⟩]) hx) rfl (.inl (Nat.le_refl 0)) (osR _ _ _ _ _) ?_
      have hX2 : Ext F1 ((F1.put u zeroR).put u (rpO x (.slice none 0 0) tx)) := ext_put_put hu
      refine ⟨hX2, ?_⟩
      (conv => whnf)
      exact hK _ _ ⟨u, hu, Heap.put_same _ _ _, hX2, rfl, rfl, rfl⟩
  rintro env' F2 ⟨u, hu, hU2, hE2, q2, q7, q9⟩
  refine short [2, 7, 9] [.pointer (some ⟨w, 0, none⟩), .slice An nb.length cn, .pointer (some ⟨u, 0, none⟩)] (by simp only [List.map_cons, List.map_nil, q2, q7, q9]) fun ρ => ?_
  clear q2 q7 q9
  have hW2 := hE2 _ _ hB_w
  (conv => whnf)
  refine call_of (chunk An nb.length cn F2) ?_
  rintro v F3 ⟨p, q, rfl, hP3, hQ3, hp0, hq0, hE3⟩
  have hU3 := hE3 _ _ hU2
  have hW3 := hE3 _ _ hW2
  have hpu : p ≠ u := fun e => by rw [e, hU2] at hp0; cases hp0
  have hqu : q ≠ u := fun e => by rw [e, hU2] at hq0; cases hq0
  have hwu : w ≠ u := fun e => by rw [e] at hB_w; rw [hB_w] at hu; cases hu
  have hE13 := hE2.trans hE3
  have hEG : Ext F1 (lessL F3 [u]) := ext_lessL hE13 (fun m hm => by rw [List.mem_singleton.1 hm]; exact hu)
  have hGu : (lessL F3 [u]) u = none := lessL_none (by simp)
  have hGp : (lessL F3 [u]) p = some (boxS (.slice An nb.length cn)) := by rw [lessL_at (by simpa using hpu)]; exact hP3
  have hGq : (lessL F3 [u]) q = some (boxI 8) := by rw [lessL_at (by simpa using hqu)]; exact hQ3
  have hGw : (lessL F3 [u]) w = some zeroR := by rw [lessL_at (by simpa using hwu)]; exact hW3
  have hG3 : Ext (lessL F3 [u]) F3 := lessL_ext _ _
  generalize lessL F3 [u] = G at hEG hGu hGp hGq hGw hG3
  have hrn := hRn.mono hEG
  refine short [2, 9, 53] [.pointer (some ⟨w, 0, none⟩), .pointer (some ⟨u, 0, none⟩), .func (.func 54) #[] #[.pointer (some ⟨p, 0, none⟩), .pointer (some ⟨q, 0, none⟩)]] rfl fun ρ => ?_
  clear hP3 hQ3 hp0 hq0 hpu hqu hwu hW2 hE2 hU2 hb0 hx hcell0 hRt hct
  (conv => whnf)
  refine range_of (g := 54) (first := []) (captured := [.pointer (some ⟨p, 0, none⟩), .pointer (some ⟨q, 0, none⟩)]) rfl ?_
  intro n r e1 e2 e3 e4 e5 hn he hok2 l hl3
  have hlu : l ≠ u := fun e => by rw [e, hU3] at hl3; cases hl3
  have hGl : G l = none := hG3.none hl3
  have k1 := Bool.and_eq_true_iff.1 (Bool.and_eq_true_iff.1 hok2).2
  have k2 := Bool.and_eq_true_iff.1 k1.2
  have h54 : 54 < n := by
    have := (Bool.and_eq_true_iff.1 k1.1).1
    simpa [Nat.blt_eq] using this
  refine (chunk1 nb An cn m l p q G (fun i F' => ∃ S, Mine G F' S 3 1 i ((nsU nb i).map (.int .i64)) ∧ F' u = some (rpO x S tx) ∧ F' l = some (.loop r)) hnl hcn hcnl hrn hGp hGq (fun i F' ⟨S, h, _⟩ => h.ext) ?_ (F3.put l (.loop r)) ⟨.slice none 0 0, Mine.nil _ _ _ _ (hG3.put hGl _), (Heap.put_other _ _ hlu.symm).trans hU3, Heap.put_same _ _ _⟩).mono ?_
  · rintro i F4 hi ⟨S, hM, hU, hL⟩ V ⟨Av, cv, rfl, hcv, hRv⟩
    obtain ⟨As, cs, rfl, hcs, hRs⟩ := hM.own.row
    have hro := round_one 54 (.slice Av (chk nb i).length cv) hn he h54
    rw [← e3] at hro
    have hchl : (chk nb i).length = 8 := by unfold chk; rw [List.length_take, List.length_drop]; omega
    refine yield_of hL e1 e2 (by rw [e3]; rfl) _ hro.1 hro.2 (by rw [e4]; rfl) (by rw [e5]; rfl) (by rw [e4]; exact k2.1) (by rw [e5]; exact k2.2) ?_
    rw [e4]
    refine codeK_sound tab_ok _ _ _ _ ?_
    (conv => whnf)
    refine ⟨hL, ?_⟩
    rw [e5]
    refine codeK_sound tab_ok _ _ _ _ ?_
    refine short [9, 10] [.pointer (some ⟨u, 0, none⟩), .slice Av (chk nb i).length cv] rfl fun ρ => ?_
    have hU5 := (Heap.put_other F4 (.loop (busyL r)) hlu.symm).trans hU
    have hL5 := Heap.put_same F4 l (.loop (busyL r))
    have hM5 := hM.put hGl (hM.own.not_loop hL) (.loop (busyL r))
    have hR5 := rowAt_loop hRv hL (.loop (busyL r))
    generalize F4.put l (.loop (busyL r)) = F5 at hU5 hL5 hM5 hR5 ⊢
    have hget := getG 8 (.inr (.inr (.inr rfl))) (chk nb i) Av cv 0 F5 hR5 (by omega) hcv (by decide)
    have hns := nsU_succ nb i
    generalize getN (chk nb i) 0 8 = num at hget hns
    (conv => whnf)
    refine call_of hget ?_
    rintro v F5 ⟨rfl, rfl⟩
    ((conv => whnf); repeat (first | (apply load_at; (conv => lhs; whnf); (with_reducible assumption); rfl; (conv => whnf)) | (apply loads_at; (conv => lhs; whnf); (with_reducible assumption); rfl; (conv => whnf)) | (refine ⟨⟨by omega, by omega⟩, ?_⟩; (conv => whnf))))
    refine new_step (.cells #[.int .i64 num] 3) rfl fun y h0_y => ?_
    have hE_y := Ext.new h0_y (.cells #[.int .i64 num] 3)
    have hB_y := Heap.put_same F5 y (.cells #[.int .i64 num] 3)
    generalize F5.put y _ = F6 at hE_y hB_y ⊢
    have hU6 := hE_y _ _ hU5
    have hL6 := hE_y _ _ hL5
    have hM6 := hM5.mono hE_y
    (conv => whnf)
    refine append_mine tab_ok rfl rfl rfl rfl rfl ⟨_, rfl, fun k h => by cases h⟩ ⟨_, rfl, rfl⟩ (by decide) hM6 (m := 1) (ys := [.int .i64 num]) (y := .slice (some ⟨y, 0, none⟩) 1 1) ⟨rfl, .inl ⟨_, _, rfl, row_blk hB_y⟩⟩ (one_int _ _) (by show 2 * (i + 1) * 8 ≤ _; omega) fun S7 F7 hM7 hk7 => ?_
    have hU7 := hk7 _ _ hU6 (hM6.own.blk_ne hU6 int_reply)
    have hL7 := hk7 _ _ hL6 (hM6.own.not_loop hL6)
    obtain ⟨A7, c7, rfl, hc7, hR7⟩ := hM7.own.row
    (conv => whnf)
    refine store_step u 1 _ (rpC x (.slice A7 (i + 1) c7) tx) rfl hU7 rfl rfl (.inl (Nat.le_refl 0)) (one_slice _ _ _) ?_
    have hU8 := Heap.put_same F7 u (rpO x (.slice A7 (i + 1) c7) tx)
    have hL8 := (Heap.put_other F7 (rpO x (.slice A7 (i + 1) c7) tx) hlu).trans hL7
    have hM8 := hM7.put hGu (hM7.own.blk_ne hU7 int_reply) (rpO x (.slice A7 (i + 1) c7) tx)
    generalize F7.put u _ = F8 at hU8 hL8 hM8 ⊢
    have hM9 := hM8.put hGl (hM8.own.not_loop hL8) (.loop r)
    (conv => whnf)
    refine ⟨hL8, rfl, .slice A7 (i + 1) c7, ?_, (Heap.put_other _ _ hlu.symm).trans hU8, Heap.put_same _ _ _⟩
    rw [hns, List.map_append]
    exact hM9
  · rintro v F4 ⟨S, hM, hU, hL⟩
    obtain ⟨A4, c4, rfl, hc4, hR4⟩ := hM.own.row
    refine ⟨hL, ?_⟩
    have hU5 := (Heap.put_other F4 (.loop (overL r)) hlu.symm).trans hU
    have hM5 := hM.put hGl (hM.own.not_loop hL) (.loop (overL r))
    generalize F4.put l (.loop (overL r)) = F5 at hU5 hM5 ⊢
    have hW5 := hM5.ext _ _ hGw
    ((conv => whnf); repeat (first | (apply load_at; (conv => lhs; whnf); (with_reducible assumption); rfl; (conv => whnf)) | (apply loads_at; (conv => lhs; whnf); (with_reducible assumption); rfl; (conv => whnf)) | (refine ⟨⟨by omega, by omega⟩, ?_⟩; (conv => whnf))))
    refine store_step w 0 _ (rpC x (.slice A4 m c4) tx) rfl hW5 rfl rfl (.inl (Nat.le_refl 0)) (osR _ _ _ _ _) ?_
    have hbw := hM5.own.blk_ne hW5 int_reply
    have hO6 : Own (F5.put w (rpO x (.slice A4 m c4) tx)) (.slice A4 m c4) 3 1 m ((nsU nb m).map (.int .i64)) := hM5.own.of_blk fun k o hk hko => by
      rw [Heap.put_other _ _ (fun e => hbw (by rw [hk, e]))]; exact hko
    have hX6 : Ext F (F5.put w (rpO x (.slice A4 m c4) tx)) := (hE_w.trans (hEG.trans hM5.ext)).put h0_w _
    (conv => whnf)
    intro rs q1 q2
    have hO7 := own_lessD hO6 q2
    obtain ⟨A8, c8, hS8, hc8, hR8⟩ := hO7.row
    injection hS8 with s1 s2 s3
    subst s1 s3
    (conv => whnf)
    refine res_cells tab_ok rfl rfl (lessD q2 (Heap.put_same _ _ _)) rfl ?_
    (conv => whnf)
    refine ⟨?_, ext_lessL hX6 q1⟩
    rw [hDR]
    subst hdec
    have hfin : Value.tuple #[.agg (rpC x (.slice A4 m c4) tx), .int .i64 0] = .tuple #[.agg (rpC x (.slice A4 (nsU nb m).length c4) tx), .int .i64 0] := by rw [nsU_len]
    exact .inl ⟨hok, A4, c4, hfin, hR8, by show (nsU nb m).length ≤ c4; rw [nsU_len]; exact hc8⟩
end Go.Proofs.Ytkahpaipciooiac.Al

/- The contracts of strings.Builder's Grow and WriteString, and of strings.Join of two texts, over what is known of memory. -/
import Derived.Test.YtkahpaipciooiabText
import Derived.Lib.MakeNoZero
import Derived.Laws.IdiomCopy
namespace Go.Proofs.Ytkahpaipciooiab.Al
open Go Go.Al Go.Proofs Go.RowKit
set_option maxHeartbeats 8000000
set_option maxRecDepth 100000
set_option linter.unusedVariables false
set_option linter.unusedSimpArgs false
theorem makeNoZero {F : Heap} {K : Value → Heap → Prop} (n : Nat) (x : Int) (hx : x = n) (hn : n ≤ 281474976710656) (h : ∀ g cs N, F g = none → n ≤ N → cs.size = N → K (.slice (some ⟨g, 0, none⟩) n N) (F.put g (.cells cs 5))) :
    CallK Try.prog 94 #[.int .i64 x] F K := by
  subst hx
  refine ⟨?_⟩
  have e1 : ∃ fn, Try.prog.funcs[94]? = some fn ∧ (fn.name == "runtime.NumGoroutine") = false ∧ fn.body = none ∧ Extern.findNext fn = none ∧ Extern.find fn = some (Extern.BytealgMakeNoZero.makeNoZero #[3] #[27]) := ⟨_, Try.func94, by kernel_rfl, rfl, by kernel_rfl, by kernel_rfl⟩
  obtain ⟨fn, hf, h1, h2, h3, h4⟩ := e1
  have h5 : ¬ (n : Int) < 0 := by omega
  have h6 : ¬ (n : Int) > 281474976710656 := by omega
  have hdef : Extern.BytealgMakeNoZero.makeNoZero #[3] #[27] #[.int .i64 n] =
      (do
        let .slice elem ← underlying 27 | stuck "bytealg.MakeNoZero: slice type expected"
        if (n : Int) < 0 || (n : Int) > 2 ^ 48 then runtimePanic (.error "makeslice: len out of range")
        let cap ← choose (.appendCap (n : Int).toNat 0 elem)
        askRoom cap
        let bytes ← choose (.extern "internal/bytealg.MakeNoZero.bytes" 0)
        let a ← newRow elem (Extern.BytealgMakeNoZero.digits cap bytes #[])
        pure (.slice (some a) (n : Int).toNat cap)) := rfl
  simp only [callFunc, wk_bind, wk_program, hf, h1, h2, Bool.false_eq_true, if_false, h3, h4, wk_mark, Option.isNone_none, if_true, hdef]
  rw [wk_underlying Try.underlying27]
  dsimp only
  have h7 : ((n : Int) < 0 || (n : Int) > 2 ^ 48) = false := by simp [h5]; omega
  simp only [h5, wk_bind, decide_false, Bool.false_or]
  rw [if_neg (by simp; omega)]
  simp only [wk_bind, wk_pure]
  refine wk_choose fun nc _ hch => ?_
  obtain ⟨tt, rfl⟩ := hch rfl
  have hge : n ≤ Question.cut (.appendCap (n : Int).toNat 0 5) tt := by show n ≤ n + _; omega
  generalize Question.cut (.appendCap (n : Int).toNat 0 5) tt = nc at hge
  rw [wk_askRoom]
  refine wk_choose fun bs _ _ => ?_
  simp only [newRow, wk_bind, wk_pure]
  refine fun g hg => ?_
  have hsz : (Extern.BytealgMakeNoZero.digits nc bs #[]).size = nc := by rw [Lib.size_digits]; simp
  exact h g (Extern.BytealgMakeNoZero.digits nc bs #[]) nc hg hge hsz
/-- A builder of the call's own, that holds l. -/
structure Bd (F0 F : Heap) (b : Nat) (l : List UInt8) : Prop where
  ext : Ext F0 F
  fresh : F0 b = none
  own : ∃ v, F b = some (.cells #[.pointer (some ⟨b, 0, none⟩), v] 106) ∧ Own F v 5 1 l.length (cellsOf l) ∧ blk v ≠ some b ∧ ∀ k, blk v = some k → F0 k = none
theorem grow (F0 : Heap) (b : Nat) (n : Nat) (h0 : 0 < n) (hn : n ≤ 1099511627776) (hb : F0 b = none) :
    FnK Try.prog 80 #[.pointer (some ⟨b, 0, none⟩), .int .i64 n] (F0.put b (.cells #[.pointer none, .slice none 0 0] 106)) (fun r F' => r = .tuple #[] ∧ Bd F0 F' b []) := by
  have inner : ∀ F, F0.put b (.cells #[.pointer (some ⟨b, 0, none⟩), .slice none 0 0] 106) = F → FnK Try.prog 90 #[.pointer (some ⟨b, 0, none⟩), .int .i64 n] F (fun r F' => r = .tuple #[] ∧ Bd F0 F' b []) := by
    intro F hF
    have hFb : F b = some (.cells #[.pointer (some ⟨b, 0, none⟩), .slice none 0 0] 106) := by rw [← hF]; exact Heap.put_same _ _ _
    (refine fn_walk tab_ok Try.func90 rfl rfl rfl rfl ?_; (conv => whnf))
    refine draw_walk tab_ok (by kernel_rfl) [0, 1, 2, 3, 4, 5, 6, 7, 9, 10, 11, 12, 13, 8, 14, 15] (by kernel_rfl) ?_
    (conv => whnf)
    refine load_blk hFb rfl rfl ?_
    (conv => whnf)
    refine load_blk hFb rfl rfl ?_
    (conv => whnf)
    have hw : IntKind.i64.wrap (IntKind.i64.wrap (2 * (0 : Nat)) + (n : Int)) = (n : Int) := by rw [IntKind.wrap_i64, IntKind.wrap_i64]; omega
    refine makeNoZero n _ hw (by omega) fun g cs N hg hN hcs => ?_
    obtain ⟨c', rfl⟩ : ∃ c', N = c' + 1 := ⟨N - 1, by omega⟩
    have hgb : g ≠ b := fun e => by rw [e, hFb] at hg; cases hg
    (conv => whnf)
    refine ⟨Ext.new hg _, ?_⟩
    (conv => whnf)
    refine ⟨⟨by decide, by omega⟩, ?_⟩
    (conv => whnf)
    have hF2 : (F.put g (.cells cs 5)) b = some (.cells #[.pointer (some ⟨b, 0, none⟩), .slice none 0 0] 106) := by rw [Heap.put_other _ _ (Ne.symm hgb)]; exact hFb
    refine load_blk hF2 rfl rfl ?_
    (conv => whnf)
    refine op_builtin rfl [.slice (some ⟨g, 0, none⟩) 0 (c' + 1), .slice none 0 0] rfl (F.put g (.cells cs 5)) (Builtin.copy_ #[27, 27] 3 #[.slice (some ⟨g, 0, none⟩) 0 (c' + 1), .slice none 0 0]) (.int .i64 0) (fun _ => rfl) (fun w hw => ⟨w, run_copy_none w 27 27 3 5 (some ⟨g, 0, none⟩) none 0 (c' + 1) 0 0 Try.underlying27 (by kernel_rfl) rfl, hw, Go.Al.Rest.refl w⟩) ?_
    (conv => whnf)
    refine store_step b 1 _ #[.pointer (some ⟨b, 0, none⟩), .slice (some ⟨g, 0, none⟩) 0 (c' + 1)] rfl hF2 rfl rfl (.inl (Nat.le_refl _)) (fun u hu => by rw [List.mem_singleton.1 hu]; rfl) ?_
    (conv => whnf)
    have hg0 : F0 g = none := by rw [← hF, Heap.put_other _ _ hgb] at hg; exact hg
    refine ⟨rfl, fun c o hc => ?_, hb, .slice (some ⟨g, 0, none⟩) 0 (c' + 1), Heap.put_same _ _ _, ⟨rfl, .inr ⟨g, c' + 1, cs, rfl, ?_, by rw [hcs, Nat.mul_one], Nat.zero_le _, by simp [cellsOf]⟩⟩, fun e => hgb (Option.some.inj e), fun k hk => ?_⟩
    · have hcb : c ≠ b := fun e => by rw [e, hb] at hc; cases hc
      have hcg : c ≠ g := fun e => by rw [e, hg0] at hc; cases hc
      show ((F.put g _).put b _) c = _
      rw [Heap.put_other _ _ hcb, Heap.put_other _ _ hcg, ← hF, Heap.put_other _ _ hcb]
      exact hc
    · show ((F.put g _).put b _) g = _
      rw [Heap.put_other _ _ hgb]
      exact Heap.put_same _ _ _
    · obtain rfl : g = k := Option.some.inj hk
      exact hg0
  (refine fn_walk tab_ok Try.func80 rfl rfl rfl rfl ?_; (conv => whnf))
  refine call_of (copyCheck _ b none _ (.inl rfl) (Heap.put_same _ _ _)) ?_
  rintro r _ ⟨rfl, rfl⟩
  rw [Heap.put_put]
  (conv => whnf)
  refine draw_walk tab_ok (by kernel_rfl) [0, 1, 2, 3, 4, 5, 6, 7, 8, 9, 10, 11, 12] (by kernel_rfl) ?_
  (conv => whnf)
  refine load_blk (Heap.put_same _ _ _) rfl rfl ?_
  (conv => whnf)
  refine load_blk (Heap.put_same _ _ _) rfl rfl ?_
  (conv => whnf)
  refine cond_split (fun _ => ?_) (fun h => by have := of_decide_eq_false h; rw [IntKind.wrap_i64] at this; omega)
  (conv => whnf)
  refine call_of (inner _ rfl) ?_
  rintro r F' ⟨rfl, hd⟩
  (conv => whnf)
  exact ⟨rfl, hd⟩
theorem writeString (F0 F : Heap) (b : Nat) (l m : List UInt8) (h : Bd F0 F b l) (hl : l.length + m.length ≤ 1099511627776) :
    FnK Try.prog 81 #[.pointer (some ⟨b, 0, none⟩), .string ⟨m.toArray⟩] F (fun r F' => Bd F0 F' b (l ++ m)) := by
  obtain ⟨v, hv, hown, hvb, hvf⟩ := h.own
  (refine fn_walk tab_ok Try.func81 rfl rfl rfl rfl ?_; (conv => whnf))
  refine call_of (copyCheck _ b _ _ (.inr rfl) hv) ?_
  rintro r F1 ⟨rfl, rfl⟩
  have hF1 : F.put b (.cells #[.pointer (some ⟨b, 0, none⟩), v] 106) = F := by
    funext c
    unfold Heap.put
    split
    · next h => subst h; exact hv.symm
    · rfl
  rw [hF1]
  (conv => whnf)
  refine load_blk hv rfl rfl ?_
  (conv => whnf)
  refine append_own tab_ok rfl rfl rfl rfl rfl ⟨_, rfl, fun k h => by cases h⟩ ⟨_, rfl, rfl⟩ (by decide) (s := v) (y := .string ⟨m.toArray⟩) (n := l.length) (m := m.length) (xs := cellsOf l) (ys := cellsOf m)
    hown ⟨by simp [cellsOf], .inr ⟨_, rfl, rfl, by simp [ByteArray.size], rfl⟩⟩ (fun u hu => ?_) (by show 2 * (l.length + m.length) * 1 ≤ _; omega) fun s' F2 h1 h2 h3 => ?_
  · obtain ⟨x, _, rfl⟩ := List.mem_map.1 hu
    rfl
  obtain ⟨A, c', rfl, hnc, _⟩ := h1.row
  have hb2 : F2 b = some (.cells #[.pointer (some ⟨b, 0, none⟩), v] 106) := h2 b _ hv hvb
  (conv => whnf)
  refine store_step b 1 _ #[.pointer (some ⟨b, 0, none⟩), .slice A (l.length + m.length) c'] rfl hb2 rfl rfl (.inl (Nat.le_refl _)) (fun u hu => by rw [List.mem_singleton.1 hu]; rfl) ?_
  (conv => whnf)
  have hs'b : blk (.slice A (l.length + m.length) c') ≠ some b := fun e => by
    rcases h3 b e with h | h
    · exact hvb h
    · rw [hv] at h; cases h
  refine ⟨fun k o hk => ?_, h.fresh, .slice A (l.length + m.length) c', Heap.put_same _ _ _, ?_, hs'b, fun k hk => ?_⟩
  · have hkb : k ≠ b := fun e => by rw [e, h.fresh] at hk; cases hk
    show (F2.put b _) k = _
    rw [Heap.put_other _ _ hkb]
    exact h2 k o (h.ext k o hk) fun e => by rw [hvf k e] at hk; cases hk
  · rw [List.length_append, show cellsOf (l ++ m) = cellsOf l ++ cellsOf m by simp [cellsOf]]
    refine h1.of_blk fun k o hk ho => ?_
    rw [Heap.put_other _ _ (fun e => hs'b (by rw [hk, e]))]
    exact ho
  · rcases h3 k hk with h' | h'
    · exact hvf k h'
    · cases e0 : F0 k with
      | none => rfl
      | some o => rw [h.ext k o e0] at h'; cases h'
/-- A text between a dot. -/
theorem joinDot (ad : Addr) (c : Nat) (p q : List UInt8) (F : Heap) (hc : 2 ≤ c) (hrow : RowAt F (some ad) [.string ⟨p.toArray⟩, .string ⟨q.toArray⟩]) (hp : p.length ≤ 100) (hq : q.length ≤ 100) :
    FnK Try.prog 68 #[.slice (some ad) 2 c, .string ⟨#[46]⟩] F (fun r F' => r = .string ⟨(p ++ [46] ++ q).toArray⟩ ∧ Ext F F') := by
  obtain ⟨c', rfl⟩ : ∃ c', c = c' + 2 := ⟨c - 2, by omega⟩
  have h0 : F.cell? (ad.add 0) = some (.string ⟨p.toArray⟩) := hrow.cell rfl
  have h1 : F.cell? (ad.add 1) = some (.string ⟨q.toArray⟩) := hrow.cell rfl
  (refine fn_walk tab_ok Try.func68 rfl rfl rfl rfl ?_; (conv => whnf))
  refine ⟨by decide, ?_⟩
  (conv => whnf)
  refine loop_slots [0, 1, 5, 39, 40, 41] (fun k vs F' => ∃ j : Nat, j + k = 2 ∧ vs = [.slice (some ad) 2 (c' + 2), .string ⟨#[46]⟩, .int .i64 ((1 + (([p, q].take j).map List.length).sum : Nat) : Int), .slice (some ad) 2 (c' + 2), .int .i64 2, .int .i64 (j : Int)] ∧ F' = F) 2 ⟨0, rfl, rfl, rfl⟩ ?_
  rintro k vs F1 ρ ⟨j, hjk, rfl, rfl⟩
  have hj : j = 0 ∨ j = 1 ∨ j = 2 := by omega
  rcases hj with rfl | rfl | rfl
  · (conv => whnf)
    refine ⟨⟨by decide, by decide⟩, ?_⟩
    (conv => whnf)
    refine load_step h0 ?_
    (conv => whnf)
    refine cond_split (fun h => ?_) (fun _ => ?_)
    · have := of_decide_eq_true h
      rw [IntKind.wrap_i64] at this
      simp [ByteArray.size] at this
      omega
    · (conv => whnf)
      refine ⟨k - 1, by omega, 1, by omega, ?_, rfl⟩
      have hw : IntKind.i64.wrap (((1 + (([p, q].take 0).map List.length).sum : Nat) : Int) + (((⟨p.toArray⟩ : ByteArray).size : Nat) : Int)) = ((1 + (([p, q].take 1).map List.length).sum : Nat) : Int) := by rw [IntKind.wrap_i64]; simp [ByteArray.size]; omega
      rw [← hw]
      rfl
  · (conv => whnf)
    refine ⟨⟨by decide, by decide⟩, ?_⟩
    (conv => whnf)
    refine load_step h1 ?_
    (conv => whnf)
    refine cond_split (fun h => ?_) (fun _ => ?_)
    · have := of_decide_eq_true h
      rw [IntKind.wrap_i64] at this
      simp [ByteArray.size] at this
      omega
    · (conv => whnf)
      refine ⟨k - 1, by omega, 2, by omega, ?_, rfl⟩
      have hw : IntKind.i64.wrap (((1 + (([p, q].take 1).map List.length).sum : Nat) : Int) + (((⟨q.toArray⟩ : ByteArray).size : Nat) : Int)) = ((1 + (([p, q].take 2).map List.length).sum : Nat) : Int) := by rw [IntKind.wrap_i64]; simp [ByteArray.size]; omega
      rw [← hw]
      rfl
  · (conv => whnf)
    refine new_step (.cells #[.pointer none, .slice none 0 0] 106) rfl fun b hb => ?_
    (conv => whnf)
    refine call_of (grow F1 b (1 + (([p, q].take 2).map List.length).sum) (by omega) (by simp; omega) hb) ?_
    rintro r F2 ⟨rfl, hd⟩
    (conv => whnf)
    refine ⟨⟨by decide, by decide⟩, ?_⟩
    (conv => whnf)
    refine load_step (hd.ext.cell h0) ?_
    (conv => whnf)
    refine call_of (writeString F1 F2 b [] p hd (by simp; omega)) ?_
    intro r F3 hd
    (conv => whnf)
    refine ⟨⟨by decide, by omega⟩, ?_⟩
    (conv => whnf)
    refine loop_slots [1, 8, 63, 64, 65] (fun k vs F' => ∃ j : Nat, j + k = 1 ∧ vs = [.string ⟨#[46]⟩, .pointer (some ⟨b, 0, none⟩), .slice (some (ad.add 1)) 1 (c' + 1), .int .i64 1, .int .i64 (j : Int)] ∧ Bd F1 F' b (p ++ if j = 0 then [] else [46] ++ q)) 1 ⟨0, rfl, rfl, by simpa using hd⟩ ?_
    rintro k vs F4 ρ ⟨j, hjk, rfl, hd⟩
    have hj : j = 0 ∨ j = 1 := by omega
    rcases hj with rfl | rfl
    · rw [if_pos rfl, List.append_nil] at hd
      (conv => whnf)
      refine ⟨⟨by decide, by decide⟩, ?_⟩
      (conv => whnf)
      refine load_step (v := .string ⟨q.toArray⟩) ?_ ?_
      · show F4.cell? ((ad.add 1).add (0 * 1)) = _
        rw [add_add]
        exact hd.ext.cell h1
      (conv => whnf)
      refine call_of (writeString F1 F4 b p [46] hd (by simp; omega)) ?_
      intro r F5 hd
      (conv => whnf)
      refine call_of (writeString F1 F5 b (p ++ [46]) q hd (by simp; omega)) ?_
      intro r F6 hd
      (conv => whnf)
      refine ⟨k - 1, by omega, 1, by omega, rfl, ?_⟩
      rw [if_neg (by decide), ← List.append_assoc]
      exact hd
    · rw [if_neg (by decide), ← List.append_assoc] at hd
      obtain ⟨v, g1, g2, g3, g4⟩ := hd.own
      (conv => whnf)
      refine call_of (string F4 b _ v _ (by simp) (by simp; omega) g1 g2 g3) ?_
      rintro r F5 ⟨rfl, hkeep⟩
      (conv => whnf)
      exact ⟨rfl, hkeep.ext hd.ext g4⟩
end Go.Proofs.Ytkahpaipciooiab.Al

/- The contracts of the writer's nums, of bit, and of the reference's put, over what is known of memory. -/
import Derived.Test.YtkahpaipciooiacCmdRMay
namespace Go.Proofs.Ytkahpaipciooiac.Al
open Go Go.Al Go.Proofs Go.RowKit
set_option maxHeartbeats 8000000
set_option maxRecDepth 100000
set_option linter.unusedVariables false
set_option linter.unusedSimpArgs false
abbrev writerO (S : Value) : Obj := .cells #[S] 71
/-- A writer, in block w, that wasn't there in F0: it has written bs. -/
def WS (F0 F : Heap) (w : Nat) (bs : List UInt8) : Prop := ∃ S, F w = some (writerO S) ∧ F0 w = none ∧ Mine F0 F S 5 1 bs.length (bytesOf bs)
theorem WS.mono {F0 F G : Heap} {w : Nat} {bs : List UInt8} (h : WS F0 F w bs) (hE : Ext F G) : WS F0 G w bs := by
  obtain ⟨S, h1, h2, h3⟩ := h
  exact ⟨S, hE _ _ h1, h2, h3.mono hE⟩
theorem WS.ext {F0 F : Heap} {w : Nat} {bs : List UInt8} (h : WS F0 F w bs) : Ext F0 F := by
  obtain ⟨S, h1, h2, h3⟩ := h
  exact h3.ext
theorem u8_writer : (5 : Nat) ≠ 71 := by decide
theorem nums (m : Nat) (hm : Siz m) (bs : List UInt8) (l : List Int) (A : Option Addr) (c : Nat) (F0 F : Heap) (w : Nat) (hw : WS F0 F w bs) (hr : RowAt F A (l.map (.int .i64))) (hA : ∀ a, A = some a → a.block ≠ w) (hl : bs.length + 8 * l.length ≤ 90000) :
    FnK Try.prog 48 #[.pointer (some ⟨w, 0, none⟩), .int .i64 m, .slice A l.length c] F (fun v F' => WS F0 F' w (putAllM m bs l) ∧ Keeps F F' (some w)) := by
  (refine fn_walk tab_ok Try.func48 rfl rfl rfl rfl ?_; (conv => whnf))
  refine loop_slots [0, 1, 8, 9, 10] (fun k vs F' => ∃ j : Nat, j + k = l.length ∧ vs = [.pointer (some ⟨w, 0, none⟩), .int .i64 m, .slice A l.length c, .int .i64 (l.length : Int), .int .i64 (j : Int)] ∧ WS F0 F' w (putAllM m bs (l.take j)) ∧ Keeps F F' (some w)) l.length ⟨0, by omega, rfl, hw, fun _ _ h _ => h⟩ ?_
  rintro k vs F2 ρ ⟨j, hjk, rfl, hw2, hk2⟩
  have hm8 : m ≤ 8 := by rcases hm with rfl | rfl | rfl | rfl <;> decide
  (conv => whnf)
  refine cond_split (fun h => ?_) (fun h => ?_)
  · have hj : j < l.length := by have := of_decide_eq_true h; omega
    obtain ⟨ad, rfl⟩ := hr.some (by simp; omega)
    have hn : l[j]? = some l[j] := List.getElem?_eq_getElem hj
    have hr2 := row_keeps hr hA hk2
    have hlen := putAllM_len m (l.take j) bs
    rw [List.length_take] at hlen
    have hlen2 : (putAllM m bs (l.take j)).length ≤ 90000 := by
      have : m * min j l.length ≤ 8 * l.length := Nat.mul_le_mul hm8 (Nat.min_le_right _ _)
      omega
    obtain ⟨S, hS, hS0, hSm⟩ := hw2
    obtain ⟨B, cc, rfl, hcc, hB⟩ := hSm.own.row
    have hp := putG m hm (putAllM m bs (l.take j)) B cc l[j] F2 hB (by omega)
    have hst := putAllM_take m bs l j l[j] hn
    generalize putAllM m bs (l.take j) = cur at hp hst hSm hlen hlen2 hB hcc hS ⊢
    (conv => whnf)
    refine ⟨⟨by omega, by omega⟩, ?_⟩
    (conv => whnf)
    refine load_step (v := .int .i64 l[j]) ?_ ?_
    · show F2.cell? (ad.add (Int.toNat (j : Int) * 1)) = _
      rw [Int.toNat_natCast, Nat.mul_one]
      exact hr2.cell (by simp [hn])
    (conv => whnf)
    refine load_blk hS rfl rfl ?_
    (conv => whnf)
    refine call_of hp ?_
    rintro v F3 hv
    have hne : blk v ≠ some w := fun e => by have := hv.fresh w e; rw [hS] at this; cases this
    have hv0 := hv.down hSm.ext
    obtain ⟨B', c', rfl, _⟩ := hv.own.row
    have o1 : ∀ x ∈ [Value.slice B' (putM m cur l[j]).length c'], x.oneCell' = true := by
      intro x hx
      rw [List.mem_singleton.1 hx]
      rfl
    (conv => whnf)
    refine store_step w 0 _ #[.slice B' (putM m cur l[j]).length c'] rfl (hv.ext _ _ hS) rfl rfl (.inl (Nat.le_refl 0)) o1 ?_
    (conv => whnf)
    refine ⟨k - 1, by omega, j + 1, by omega, ?_, ?_, ?_⟩
    · have hw : IntKind.i64.wrap ((j : Int) + 1) = ((j + 1 : Nat) : Int) := by rw [IntKind.wrap_i64]; omega
      rw [← hw]
      rfl
    · rw [hst]
      exact ⟨_, Heap.put_same _ _ _, hS0, hv0.put hS0 hne _⟩
    · exact hk2.trans ((hv.ext.keeps _).trans (Keeps.put _ _ _))
  · have hj : j = l.length := by have := of_decide_eq_false h; omega
    subst hj
    rw [List.take_length] at hw2
    (conv => whnf)
    exact ⟨hw2, hk2⟩
theorem bit (b : Bool) (F : Heap) : FnK Try.prog 49 #[.bool b] F (fun v F' => v = .int .i64 (if b then 1 else 0) ∧ F' = F) := by
  cases b
  all_goals
    (refine fn_walk tab_ok Try.func49 rfl rfl rfl rfl ?_; (conv => whnf))
    exact ⟨rfl, rfl⟩
theorem rputL (m : Nat) (hm : Siz m) (bs : List UInt8) (v : Value) (l : List Int) (A : Option Addr) (c : Nat) (F : Heap) (hb : Bs F v bs) (hr : RowAt F A (l.map (.int .i64))) (hne : l ≠ []) (hl : bs.length + 8 * l.length ≤ 90000) :
    FnK Try.prog 51 #[v, .slice A l.length c, .int .i64 m] F (fun r F' => Mine F F' r 5 1 (putAllM m bs l).length (bytesOf (putAllM m bs l))) := by
  obtain ⟨A0, c0, rfl, h0, hb0⟩ := hb
  have hm8 : m ≤ 8 := by rcases hm with rfl | rfl | rfl | rfl <;> decide
  (refine fn_walk tab_ok Try.func51 rfl rfl rfl rfl ?_; (conv => whnf))
  refine loop_slots [0, 1, 2, 7] (fun k vs F' => ∃ (j : Nat) (s : Value), j + k = l.length ∧ vs = [s, .slice A l.length c, .int .i64 m, .int .i64 (j : Int)] ∧ Ext F F' ∧ Bs F' s (putAllM m bs (l.take j)) ∧ (0 < j → Mine F F' s 5 1 (putAllM m bs (l.take j)).length (bytesOf (putAllM m bs (l.take j))))) l.length ⟨0, _, by omega, rfl, Ext.refl F, ⟨A0, c0, rfl, h0, hb0⟩, fun h => by omega⟩ ?_
  rintro k vs F2 ρ ⟨j, s, hjk, rfl, hE2, hs, hs2⟩
  (conv => whnf)
  refine cond_split (fun h => ?_) (fun h => ?_)
  · have hj : j < l.length := by have := of_decide_eq_true h; omega
    obtain ⟨ad, rfl⟩ := hr.some (by simp; omega)
    have hn : l[j]? = some l[j] := List.getElem?_eq_getElem hj
    obtain ⟨B, cc, rfl, hcc, hB⟩ := hs
    have hr2 := hr.mono hE2
    have hlen := putAllM_len m (l.take j) bs
    rw [List.length_take] at hlen
    have hlen2 : (putAllM m bs (l.take j)).length ≤ 90000 := by
      have : m * min j l.length ≤ 8 * l.length := Nat.mul_le_mul hm8 (Nat.min_le_right _ _)
      omega
    have hp := rputG m hm (putAllM m bs (l.take j)) B cc l[j] F2 hB (by omega)
    have hst := putAllM_take m bs l j l[j] hn
    generalize putAllM m bs (l.take j) = cur at hp hst hlen hlen2 hB hcc hs2 ⊢
    (conv => whnf)
    refine ⟨⟨by omega, by omega⟩, ?_⟩
    (conv => whnf)
    refine load_step (v := .int .i64 l[j]) ?_ ?_
    · show F2.cell? (ad.add (Int.toNat (j : Int) * 1)) = _
      rw [Int.toNat_natCast, Nat.mul_one]
      exact hr2.cell (by simp [hn])
    (conv => whnf)
    refine call_of hp ?_
    rintro v F3 hv
    (conv => whnf)
    refine ⟨k - 1, by omega, j + 1, v, by omega, ?_, hE2.trans hv.ext, ?_, fun _ => ?_⟩
    · have hw : IntKind.i64.wrap ((j : Int) + 1) = ((j + 1 : Nat) : Int) := by rw [IntKind.wrap_i64]; omega
      rw [← hw]
      rfl
    · rw [hst]; exact Bs.of_mine hv
    · rw [hst]; exact hv.down hE2
  · have hj : j = l.length := by have := of_decide_eq_false h; omega
    subst hj
    rw [List.take_length] at hs2
    have := hs2 (List.length_pos_iff.2 hne)
    (conv => whnf)
    exact this
end Go.Proofs.Ytkahpaipciooiac.Al

/- The contracts of strings.Builder's copyCheck, WriteByte and String, over what is known of memory, for a builder of the call's own. -/
import Derived.Test.YtkahpaipciooiabAlRow
import Derived.Test.YtkahpaipciooiabAlTab
import Derived.Lib.Builder
import Derived.Lib.UnsafeStr
import Derived.WalkKit
import Derived.Laws.Externs
namespace Go.Proofs.Ytkahpaipciooiab.Al
open Go Go.Al Go.Proofs Go.RowKit
set_option maxHeartbeats 8000000
set_option maxRecDepth 100000
set_option linter.unusedVariables false
set_option linter.unusedSimpArgs false
theorem copyCheck_fresh (b : Nat) (w : World) (h0 : w.cell? ⟨b, 0, none⟩ = some (.pointer none)) (hsh : w.shape? b = some (106, 2)) (hfz : w.frozen? ⟨b, 0, none⟩ = false) :
    Calls Try.prog 89 #[.pointer (some ⟨b, 0, none⟩)] w fun e w' => e = .returned (.tuple #[]) ∧ w' = w.setCell ⟨b, 0, none⟩ (.pointer (some ⟨b, 0, none⟩)) := by
  obtain ⟨j, hj, hjs⟩ := Option.map_eq_some_iff.1 (show (Try.prog.info? 106).map (·.size) = some 2 by kernel_rfl)
  go_enter Try.func89, Try.ntmps89
  go_wp2
  rw [Lib.run_to_unsafe w ⟨b, 0, none⟩ Try.underlying104 Try.underlying116 hj (by rw [hjs]; decide) hsh (Nat.zero_lt_succ 1)]
  simp only [Result.andThen]
  rw [Oper.upon_value]
  go_wp2
  rw [run_callFunc_extern Try.func93 (by kernel_rfl) (by kernel_rfl) (by kernel_rfl) (e := Extern.AbiNoEscape.same) (by kernel_rfl)]
  rw [Lib.run_noEscape]
  simp only [Result.andThen]
  rw [Oper.upon_value]
  go_wp2
  rw [Lib.run_from_unsafe w ⟨b, 0, none⟩ Try.underlying116 Try.underlying104 hj hsh (by kernel_rfl)]
  simp only [Result.andThen]
  rw [Oper.upon_value]
  go_wp2
  go_end0
  exact ⟨rfl, rfl⟩
theorem copyCheck_used (b : Nat) (w : World) (h0 : w.cell? ⟨b, 0, none⟩ = some (.pointer (some ⟨b, 0, none⟩))) :
    Calls Try.prog 89 #[.pointer (some ⟨b, 0, none⟩)] w fun e w' => e = .returned (.tuple #[]) ∧ w' = w := by
  obtain ⟨j, hj, _⟩ := Option.map_eq_some_iff.1 (show (Try.prog.info? 106).map (·.size) = some 2 by kernel_rfl)
  go_enter Try.func89, Try.ntmps89
  go_wp2
  rw [Lib.run_neq_ptr_same w _ Try.underlying104 hj]
  go_wp2
  go_end0
  exact ⟨rfl, rfl⟩
theorem copyCheck (F : Heap) (b : Nat) (p : Option Addr) (v : Value) (hp : p = none ∨ p = some ⟨b, 0, none⟩) (hb : F b = some (.cells #[.pointer p, v] 106)) :
    FnK Try.prog 89 #[.pointer (some ⟨b, 0, none⟩)] F (fun r F' => r = .tuple #[] ∧ F' = F.put b (.cells #[.pointer (some ⟨b, 0, none⟩), v] 106)) := by
  refine ⟨⟨_, Try.func89, rfl, rfl⟩, fun w hw => ?_⟩
  have hbw := hw _ _ hb
  rcases hp with rfl | rfl
  · refine (copyCheck_fresh b w (by simp [World.cell?, hbw]) (by simp [World.shape?, hbw]) (by simp [World.frozen?, hbw])).mono ?_
    rintro e w' ⟨rfl, rfl⟩
    have hc : F.cell? ⟨b, 0, none⟩ = some (.pointer none) := by simp [Heap.cell?, hb]
    refine ⟨_, _, rfl, hw.setCell hc _, ⟨rfl, rfl, rfl, by simp [World.setCell]⟩, rfl, ?_⟩
    rw [Heap.setCell_of (a := ⟨b, 0, none⟩) hb]
    rfl
  · refine (copyCheck_used b w (by simp [World.cell?, hbw])).mono ?_
    rintro e w' ⟨rfl, rfl⟩
    refine ⟨_, F, rfl, hw, Rest.refl _, rfl, ?_⟩
    funext c
    unfold Heap.put
    split
    · next h => subst h; exact hb
    · rfl
theorem writeByte (F : Heap) (b : Nat) (p : Option Addr) (v : Value) (n : Nat) (bs : List Value) (c : Int) (hp : p = none ∨ p = some ⟨b, 0, none⟩) (hb : F b = some (.cells #[.pointer p, v] 106)) (hv : Own F v 5 1 n bs) (hne : blk v ≠ some b) (hn : n ≤ 1099511627776) :
    FnK Try.prog 83 #[.pointer (some ⟨b, 0, none⟩), .int .u8 c] F (fun r F' => r = .nilIface ∧ ∃ v', F' b = some (.cells #[.pointer (some ⟨b, 0, none⟩), v'] 106) ∧ Own F' v' 5 1 (n + 1) (bs ++ [.int .u8 c]) ∧ blk v' ≠ some b ∧
      (∀ k o, F k = some o → k ≠ b → blk v ≠ some k → F' k = some o) ∧ (∀ k, blk v' = some k → blk v = some k ∨ F k = none)) := by
  (refine fn_walk tab_ok Try.func83 rfl rfl rfl rfl ?_; (conv => whnf))
  refine call_of (copyCheck F b p v hp hb) ?_
  rintro r _ ⟨rfl, rfl⟩
  (conv => whnf)
  refine load_blk (Heap.put_same _ _ _) rfl rfl ?_
  (conv => whnf)
  refine new_step (.cells #[.int .u8 c] 5) rfl fun g hg => ?_
  have hgb : g ≠ b := by
    rintro rfl
    rw [Heap.put_same] at hg
    cases hg
  have hFg : F g = none := by rw [Heap.put_other F _ hgb] at hg; exact hg
  (conv => whnf)
  refine append_own tab_ok rfl rfl rfl rfl rfl ⟨_, rfl, fun k h => by cases h⟩ ⟨_, rfl, rfl⟩ (by decide) (s := v) (y := .slice (some ⟨g, 0, none⟩) 1 1) (n := n) (m := 1) (xs := bs) (ys := [.int .u8 c])
    (hv.of_blk fun k o hk ho => ?_) ⟨rfl, .inl ⟨_, _, rfl, fun j u hj => ⟨_, rfl, ?_⟩⟩⟩ (fun u hu => by rw [List.mem_singleton.1 hu]; rfl) (by show 2 * (n + 1) * 1 ≤ _; omega) fun s' F2 h1 h2 h3 => ?_
  · have hkb : k ≠ b := fun e => hne (by rw [hk, e])
    have hkg : k ≠ g := fun e => by rw [e, hFg] at ho; cases ho
    rw [Heap.put_other _ _ hkg, Heap.put_other _ _ hkb]
    exact ho
  · rw [add_plain, Heap.cell_at (Heap.put_same _ _ _)]
    cases j with
    | zero => simpa using hj
    | succ j => simp at hj
  · obtain ⟨A, c', rfl, hnc, _⟩ := h1.row
    have hb2 : F2 b = some (.cells #[.pointer (some ⟨b, 0, none⟩), v] 106) := h2 b _ (by rw [Heap.put_other _ _ (Ne.symm hgb)]; exact Heap.put_same _ _ _) hne
    (conv => whnf)
    refine store_step b 1 _ #[.pointer (some ⟨b, 0, none⟩), .slice A (n + 1) c'] rfl hb2 rfl rfl (.inl (Nat.le_refl _)) (fun u hu => by rw [List.mem_singleton.1 hu]; rfl) ?_
    (conv => whnf)
    have hs'b : blk (.slice A (n + 1) c') ≠ some b := fun e => by
      rcases h3 b e with h | h
      · exact hne h
      · rw [Heap.put_other _ _ (Ne.symm hgb), Heap.put_same] at h; cases h
    refine ⟨rfl, .slice A (n + 1) c', Heap.put_same _ _ _, h1.of_blk fun k o hk ho => ?_, hs'b, fun k o ho hkb hkv => ?_, fun k hk => ?_⟩
    · rw [Heap.put_other _ _ (fun e => hs'b (by rw [hk, e]))]; exact ho
    · have hkg : k ≠ g := fun e => by rw [e, hFg] at ho; cases ho
      show (F2.put b _) k = _
      rw [Heap.put_other _ _ hkb]
      refine h2 k o ?_ hkv
      rw [Heap.put_other _ _ hkg, Heap.put_other _ _ hkb]
      exact ho
    · rcases h3 k hk with h | h
      · exact .inl h
      · right
        have hkb : k ≠ b := fun e => hs'b (by rw [hk, e])
        cases hFk : F k with
        | none => rfl
        | some o =>
          have hkg : k ≠ g := fun e => by rw [e, hFg] at hFk; cases hFk
          rw [Heap.put_other _ _ hkg, Heap.put_other _ _ hkb, hFk] at h
          cases h
def cellsOf (l : List UInt8) : List Value := l.map fun x => .int .u8 x.toNat
theorem string (F : Heap) (b : Nat) (p : Value) (v : Value) (l : List UInt8) (h0 : l ≠ []) (hl : l.length ≤ 1099511627776) (hb : F b = some (.cells #[p, v] 106)) (hv : Own F v 5 1 l.length (cellsOf l)) (hne : blk v ≠ some b) :
    FnK Try.prog 82 #[.pointer (some ⟨b, 0, none⟩)] F (fun r F' => r = .string ⟨l.toArray⟩ ∧ Keeps F F' (blk v)) := by
  have hl0 : l.length ≠ 0 := by simpa using h0
  obtain ⟨g, c, cs, rfl, hg, hcs, hle, ht⟩ : ∃ g c cs, v = .slice (some ⟨g, 0, none⟩) l.length c ∧ F g = some (.cells cs 5 (0, 0)) ∧ cs.size = c * 1 ∧ l.length ≤ c ∧ cs.toList.take (l.length * 1) = cellsOf l := by
    rcases hv.2 with ⟨_, h⟩ | h
    · exact absurd h hl0
    · exact h
  rw [Nat.mul_one] at hcs ht
  (refine fn_walk tab_ok Try.func82 rfl rfl rfl rfl ?_; (conv => whnf))
  refine draw_walk tab_ok (by kernel_rfl) [0, 1, 2, 3, 5, 6, 7, 8, 9, 4, 10, 11] (by kernel_rfl) ?_
  (conv => whnf)
  refine load_blk hb rfl rfl ?_
  (conv => whnf)
  refine load_blk hb rfl rfl ?_
  (conv => whnf)
  refine op_builtin rfl [.slice (some ⟨g, 0, none⟩) l.length c] rfl F (Builtin.unsafeSliceData_ #[27] 115 #[.slice (some ⟨g, 0, none⟩) l.length c]) (.pointer (some ⟨g, 0, none⟩)) (fun _ => rfl) (fun w hw => ⟨w, Lib.run_unsafeSliceData_row w _ _ _ _ _ (by omega), hw, Go.Al.Rest.refl w⟩) ?_
  (conv => whnf)
  refine ⟨Ext.refl F, ?_⟩
  (conv => whnf)
  have hUS : ∀ w, Has F w → ∃ w', (Builtin.unsafeString_ #[115, 3] 9 #[.pointer (some ⟨g, 0, none⟩), .int .i64 l.length]).run Try.prog w = .ok (.string ⟨l.toArray⟩) w' ∧ Has (F.freeze ⟨g, 0, none⟩ l.length) w' ∧ Go.Al.Rest w w' := fun w hw => by
    refine ⟨w.freeze ⟨g, 0, none⟩ l.length, Lib.run_unsafeString_row w 115 3 9 5 Try.underlying115 (by kernel_rfl) g cs.size (by simp [World.shape?, hw _ _ hg]) l h0 (by omega) (by omega) (fun j x hx => ?_), hw.freeze (a := ⟨g, 0, none⟩) _ hg, ?_⟩
    · have : (cellsOf l)[j]? = some (.int .u8 x.toNat) := by simp [cellsOf, hx]
      rw [← ht, List.getElem?_take] at this
      split at this
      · rw [add_plain]
        simp only [World.cell?, hw _ _ hg, Nat.zero_add]
        simpa using this
      · cases this
    · unfold World.freeze
      split
      · exact Go.Al.Rest.refl w
      · exact ⟨rfl, rfl, rfl, by simp⟩
  refine op_builtin rfl [.pointer (some ⟨g, 0, none⟩), .int .i64 l.length] rfl _ _ _ (fun _ => rfl) hUS ?_
  (conv => whnf)
  refine ⟨rfl, fun k o hk hne' => ?_⟩
  unfold Heap.freeze
  rw [if_neg hl0, hg]
  dsimp only
  rw [Heap.put_other _ _ (fun e => hne' (by rw [e]; rfl))]
  exact hk
end Go.Proofs.Ytkahpaipciooiab.Al

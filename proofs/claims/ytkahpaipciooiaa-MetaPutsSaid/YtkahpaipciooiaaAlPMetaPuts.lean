/- The law MetaPuts holds of the program: proved over what is known of memory, each function by its contract. -/
import Derived.Test.YtkahpaipciooiaaAlLawMetaPuts
import Derived.Test.YtkahpaipciooiaaMetaLaw2
namespace Go.Proofs.Ytkahpaipciooiaa.AlMetaPuts
open Go Go.Al Go.Proofs Go.RowKit Go.Proofs.Ytkahpaipciooiaa.Al
set_option maxHeartbeats 8000000
set_option maxRecDepth 100000
set_option linter.unusedVariables false
set_option linter.unusedSimpArgs false
theorem law : LawK := by
  intro F x w cs hK x' w' cs' hK'
  obtain ⟨A, c, rfl, hr⟩ := meta_open hK
  obtain ⟨A', c', rfl, hr'⟩ := meta_open hK'
  clear hK hK' w w'
  obtain ⟨d, f, n, k, l⟩ := x
  obtain ⟨d', f', n', k', l'⟩ := x'
  dsimp only at hr hr' ⊢
  have h1 := putM d f n k l A c
  have h2 := rputM d f n k l A c
  have h3 := same d f n k d' f' n' k' l l' A A' c c'
  have h4 := rsame d f n k d' f' n' k' l l' A A' c c'
  generalize ((d == d' && (f == f' && (n == n' && k == k'))) && l == l') = sm at h3 h4
  generalize emS d f n k l = e at h1 h2
  generalize pgS d f n k l = pg at h1 h2
  (refine fn_walk tab_ok Try.func4 rfl rfl rfl rfl ?_; (conv => whnf))
  refine new_step (metaO d f n k (.slice A l.length c)) rfl fun b hb => ?_
  have hE := Ext.new hb (metaO d f n k (.slice A l.length c))
  have hB := Heap.put_same F b (metaO d f n k (.slice A l.length c))
  generalize F.put b _ = F1 at hE hB ⊢
  (conv => whnf)
  refine new_step (metaO d' f' n' k' (.slice A' l'.length c')) rfl fun b' hb' => ?_
  have hE2 := hE.trans (Ext.new hb' (metaO d' f' n' k' (.slice A' l'.length c')))
  have hC := (Ext.new hb' (metaO d' f' n' k' (.slice A' l'.length c'))) b _ hB
  have hC' := Heap.put_same F1 b' (metaO d' f' n' k' (.slice A' l'.length c'))
  generalize F1.put b' _ = F2 at hE2 hC hC' ⊢
  have out : ∀ F', Ext F F' → FnK Try.prog 6 #[] F' (fun v F' => v = .bool true ∧ Ext F F') := fun F' hF' => (awake F').mono fun v G h => ⟨h.1, hF'.trans h.2⟩
  (conv => whnf)
  refine load_blk hC rfl rfl ?_
  (conv => whnf)
  refine cond_split (fun h => ?_) (fun h => ?_)
  case refine_2 =>
    (conv => whnf)
    refine call_of (out _ hE2) ?_
    rintro v F9 ⟨rfl, hF9⟩
    (conv => whnf)
    exact ⟨rfl, hF9⟩
  have hl : l.length ≤ 60 := by
    have h : (!decide ((l.length : Int) > 60)) = true := h
    simp at h
    omega
  (conv => whnf)
  refine load_blk hC' rfl rfl ?_
  (conv => whnf)
  refine cond_split (fun h => ?_) (fun h => ?_)
  · (conv => whnf)
    refine call_of (out _ hE2) ?_
    rintro v F9 ⟨rfl, hF9⟩
    (conv => whnf)
    exact ⟨rfl, hF9⟩
  have hl' : l'.length ≤ 60 := by
    have h : decide ((l'.length : Int) > 60) = false := h
    have := of_decide_eq_false h
    omega
  (conv => whnf)
  refine ⟨⟨_, _, _, hC, rfl, Nat.le_refl 5, ?_⟩⟩
  (conv => whnf)
  refine call_of (h1 F2 (hr.mono hE2) (by omega)) ?_
  rintro v F3 ⟨⟨r, rfl, B, cc, rfl, hcc, hB3⟩, hE3⟩
  have hC3 := hE3 _ _ hC
  have hC3' := hE3 _ _ hC'
  replace hE3 := hE2.trans hE3
  (conv => whnf)
  refine ⟨⟨_, _, _, hC3, rfl, Nat.le_refl 5, ?_⟩⟩
  (conv => whnf)
  refine call_of (h2 F3 (hr.mono hE3) (by omega)) ?_
  rintro v F4 ⟨⟨r, rfl, B', cc', rfl, hcc', hB4⟩, hE4⟩
  have hC4 := hE4 _ _ hC3
  have hC4' := hE4 _ _ hC3'
  replace hB3 := hB3.mono hE4
  replace hE4 := hE3.trans hE4
  have hbe := fun G hx hy => bytesEqual pg pg B B' cc cc' G hx hy
  rw [beq_self_eq_true] at hbe
  (conv => whnf)
  refine draw_walk tab_ok (by kernel_rfl) [0, 1, 2, 3, 4, 5, 6, 7, 8, 9, 10, 12, 13, 11, 14, 15, 16, 17, 18, 19, 20] (by kernel_rfl) ?_
  (conv => whnf)
  refine call_of (hbe F4 hB3 hB4) ?_
  rintro v F4 ⟨rfl, rfl⟩
  (conv => whnf)
  (refine cond_split (fun _ => ?_) (fun h_ => absurd h_ (by simp)); (conv => whnf))
  refine ⟨⟨_, _, _, hC4, rfl, Nat.le_refl 5, ?_⟩⟩
  (conv => whnf)
  refine ⟨⟨_, _, _, hC4', rfl, Nat.le_refl 5, ?_⟩⟩
  (conv => whnf)
  refine ⟨⟨_, _, _, hC4, rfl, Nat.le_refl 5, ?_⟩⟩
  (conv => whnf)
  refine ⟨⟨_, _, _, hC4', rfl, Nat.le_refl 5, ?_⟩⟩
  (conv => whnf)
  refine call_of (h3 F4 (hr.mono hE4) (hr'.mono hE4) (by omega) (by omega)) ?_
  rintro v F5 ⟨rfl, hE5⟩
  refine ⟨hE5, ?_⟩
  replace hE5 := hE4.trans hE5
  (conv => whnf)
  refine call_of (h4 F5 (hr.mono hE5) (hr'.mono hE5) (by omega) (by omega)) ?_
  rintro v F6 ⟨rfl, hE6⟩
  replace hE6 := hE5.trans hE6
  (conv => whnf)
  (refine cond_split (fun _ => ?_) (fun h_ => absurd h_ (by simp)); (conv => whnf))
  refine call_of (out F6 hE6) ?_
  rintro v F9 ⟨rfl, hF9⟩
  (conv => whnf)
  exact ⟨rfl, hF9⟩
end Go.Proofs.Ytkahpaipciooiaa.AlMetaPuts

/- The law CmdEncodes holds of the program: proved over what is known of memory, each function by its contract. -/
import Derived.Test.YtkahpaipciooiacAlLawCmdEncodes
import Derived.Test.YtkahpaipciooiacCmdAwake2
namespace Go.Proofs.Ytkahpaipciooiac.AlCmdEncodes
open Go Go.Al Go.Proofs Go.RowKit Go.Proofs.Ytkahpaipciooiac.Al
set_option maxHeartbeats 8000000
set_option maxRecDepth 100000
set_option linter.unusedVariables false
set_option linter.unusedSimpArgs false
theorem law : LawK := by
  intro F xx w cs hK xx' w' cs' hK'
  obtain ⟨r, rfl, hr, _, _⟩ := cmd_open hK
  obtain ⟨r', rfl, hr', _, _⟩ := cmd_open hK'
  clear hK hK' w w'
  obtain ⟨⟨k, y, x, f, o, n, p, d, l, a, ab, nm, ls⟩, B, cc⟩ := r
  obtain ⟨⟨k', y', x', f', o', n', p', d', l', a', ab', nm', ls'⟩, B', cc'⟩ := r'
  dsimp only at hr hr'
  have h1 := encode k y x f o n p d l a ab nm ls B cc
  have h2 := rencode k y x f o n p d l a ab nm ls B cc
  have hpl : mayB ⟨k, y, x, f, o, n, p, d, l, a, ab, nm, ls⟩ = true → (encB ⟨k, y, x, f, o, n, p, d, l, a, ab, nm, ls⟩).length ≤ 29 + nm.length + 14 * ls.length := fun _ => by
    have := encL_len ls (encM ⟨k, y, x, f, o, n, p, d, l, a, ab, nm, ls⟩)
    have h2 := encM_len ⟨k, y, x, f, o, n, p, d, l, a, ab, nm, ls⟩
    unfold encB
    dsimp only at h2 ⊢
    omega
  generalize (if mayB ⟨k, y, x, f, o, n, p, d, l, a, ab, nm, ls⟩ then (0 : Int) else 1) = e at h1 h2
  generalize (if mayB ⟨k, y, x, f, o, n, p, d, l, a, ab, nm, ls⟩ = true then encB ⟨k, y, x, f, o, n, p, d, l, a, ab, nm, ls⟩ else []) = pg at h1 h2
  have hfew : List.all [(⟨⟨k, y, x, f, o, n, p, d, l, a, ab, nm, ls⟩, B, cc⟩ : CR), ⟨⟨k', y', x', f', o', n', p', d', l', a', ab', nm', ls'⟩, B', cc'⟩] few = (few ⟨⟨k, y, x, f, o, n, p, d, l, a, ab, nm, ls⟩, B, cc⟩ && few ⟨⟨k', y', x', f', o', n', p', d', l', a', ab', nm', ls'⟩, B', cc'⟩) := by
    simp
  have hf1 : few ⟨⟨k, y, x, f, o, n, p, d, l, a, ab, nm, ls⟩, B, cc⟩ = true → nm.length ≤ 100 ∧ ls.length ≤ 20 := fun h => by
    unfold few at h
    rw [Bool.and_eq_true, decide_eq_true_eq, decide_eq_true_eq] at h
    exact h
  have hf2 : few ⟨⟨k', y', x', f', o', n', p', d', l', a', ab', nm', ls'⟩, B', cc'⟩ = true → nm'.length ≤ 100 ∧ ls'.length ≤ 20 := fun h => by
    unfold few at h
    rw [Bool.and_eq_true, decide_eq_true_eq, decide_eq_true_eq] at h
    exact h
  have hc := fun A c G hg => cmds [(⟨⟨k, y, x, f, o, n, p, d, l, a, ab, nm, ls⟩, B, cc⟩ : CR), ⟨⟨k', y', x', f', o', n', p', d', l', a', ab', nm', ls'⟩, B', cc'⟩] A c 2 G hg (by simp) (by decide)
  rw [hfew] at hc
  generalize few ⟨⟨k, y, x, f, o, n, p, d, l, a, ab, nm, ls⟩, B, cc⟩ = z1 at hc hf1
  generalize few ⟨⟨k', y', x', f', o', n', p', d', l', a', ab', nm', ls'⟩, B', cc'⟩ = z2 at hc hf2
  have h3 := fun (h1 : ls.length ≤ 20) (h2 : ls'.length ≤ 20) G hx hy => same k y x f o n p d l a ab nm ls k' y' x' f' o' n' p' d' l' a' ab' nm' ls' B B' cc cc' G hx hy (by omega) (by omega)
  have h4 := fun (h1 : ls.length ≤ 20) (h2 : ls'.length ≤ 20) G hx hy => rsame k y x f o n p d l a ab nm ls k' y' x' f' o' n' p' d' l' a' ab' nm' ls' B B' cc cc' G hx hy (by omega) (by omega)
  have k1 := known k
  have k2 := rknown k
  have k3 := asks k
  have k4 := rasks k
  generalize knownB k = kb at k1 k2
  generalize asksB k = kb' at k3 k4
  change FnK _ _ #[.agg (cmdC k y x f o n p d l a ab ⟨nm.toArray⟩ (.slice B ls.length cc)), .agg (cmdC k' y' x' f' o' n' p' d' l' a' ab' ⟨nm'.toArray⟩ (.slice B' ls'.length cc'))] _ _
  (refine fn_walk tab_ok Try.func7 rfl rfl rfl rfl ?_; (conv => whnf))
  refine new_step (cmdO k y x f o n p d l a ab ⟨nm.toArray⟩ (.slice B ls.length cc)) rfl fun b hb => ?_
  have hE := Ext.new hb (cmdO k y x f o n p d l a ab ⟨nm.toArray⟩ (.slice B ls.length cc))
  have hB := Heap.put_same F b (cmdO k y x f o n p d l a ab ⟨nm.toArray⟩ (.slice B ls.length cc))
  generalize F.put b _ = F1 at hE hB ⊢
  (conv => whnf)
  refine new_step (cmdO k' y' x' f' o' n' p' d' l' a' ab' ⟨nm'.toArray⟩ (.slice B' ls'.length cc')) rfl fun b' hb' => ?_
  have hE2 := hE.trans (Ext.new hb' (cmdO k' y' x' f' o' n' p' d' l' a' ab' ⟨nm'.toArray⟩ (.slice B' ls'.length cc')))
  have hC := (Ext.new hb' (cmdO k' y' x' f' o' n' p' d' l' a' ab' ⟨nm'.toArray⟩ (.slice B' ls'.length cc'))) b _ hB
  have hC' := Heap.put_same F1 b' (cmdO k' y' x' f' o' n' p' d' l' a' ab' ⟨nm'.toArray⟩ (.slice B' ls'.length cc'))
  generalize F1.put b' _ = F2 at hE2 hC hC' ⊢
  have out : ∀ F', Ext F F' → FnK Try.prog 19 #[] F' (fun v F' => v = .bool true ∧ Ext F F') := fun F' hF' => (awake F').mono fun v G h => ⟨h.1, hF'.trans h.2⟩
  (conv => whnf)
  refine ⟨⟨_, _, _, hC, rfl, Nat.le_refl 13, ?_⟩⟩
  (conv => whnf)
  refine ⟨⟨_, _, _, hC', rfl, Nat.le_refl 13, ?_⟩⟩
  (conv => whnf)
  refine new_step (.cells (rowsV [(⟨⟨k, y, x, f, o, n, p, d, l, a, ab, nm, ls⟩, B, cc⟩ : CR), ⟨⟨k', y', x', f', o', n', p', d', l', a', ab', nm', ls'⟩, B', cc'⟩]).toArray 38) ?_ fun g hg => ?_
  · refine congrArg (fun l => Obj.cells (List.toArray l) 38) ?_
    exact fill2 _ (cmdC k y x f o n p d l a ab ⟨nm.toArray⟩ (.slice B ls.length cc)).toList (cmdC k' y' x' f' o' n' p' d' l' a' ab' ⟨nm'.toArray⟩ (.slice B' ls'.length cc')).toList rfl rfl rfl
  have hXg := Ext.new hg (.cells (rowsV [(⟨⟨k, y, x, f, o, n, p, d, l, a, ab, nm, ls⟩, B, cc⟩ : CR), ⟨⟨k', y', x', f', o', n', p', d', l', a', ab', nm', ls'⟩, B', cc'⟩]).toArray 38)
  have hG := Heap.put_same F2 g (.cells (rowsV [(⟨⟨k, y, x, f, o, n, p, d, l, a, ab, nm, ls⟩, B, cc⟩ : CR), ⟨⟨k', y', x', f', o', n', p', d', l', a', ab', nm', ls'⟩, B', cc'⟩]).toArray 38)
  generalize F2.put g _ = F3 at hXg hG ⊢
  have hrow : RowAt F3 (some ⟨g, 0, none⟩) (rowsV [(⟨⟨k, y, x, f, o, n, p, d, l, a, ab, nm, ls⟩, B, cc⟩ : CR), ⟨⟨k', y', x', f', o', n', p', d', l', a', ab', nm', ls'⟩, B', cc'⟩]) := fun j v hj => ⟨_, rfl, by
    rw [add_plain, Heap.cell_at hG, Nat.zero_add, ← Array.getElem?_toList]
    exact hj⟩
  replace hC := hXg _ _ hC
  replace hC' := hXg _ _ hC'
  replace hE2 := hE2.trans hXg
  (conv => whnf)
  refine call_of (hc (some ⟨g, 0, none⟩) 2 F3 hrow) ?_
  rintro v F4 ⟨rfl, hE4⟩
  replace hC := hE4 _ _ hC
  replace hC' := hE4 _ _ hC'
  replace hE4 := hE2.trans hE4
  clear hG hrow hXg
  refine short [2, 3, 12] [.pointer (some ⟨b, 0, none⟩), .pointer (some ⟨b', 0, none⟩), .bool (z1 && z2)] rfl fun ρ => ?_
  cases hz : (z1 && z2) with
  | false =>
    (conv => whnf)
    refine call_of (out _ hE4) ?_
    rintro v F9 ⟨rfl, hF9⟩
    (conv => whnf)
    exact ⟨rfl, hF9⟩
  | true =>
  rw [Bool.and_eq_true] at hz
  obtain ⟨n1, l1⟩ := hf1 hz.1
  obtain ⟨n2, l2⟩ := hf2 hz.2
  (conv => whnf)
  refine ⟨⟨_, _, _, hC, rfl, Nat.le_refl 13, ?_⟩⟩
  (conv => whnf)
  refine call_of (h1 F4 (hr.mono hE4) (by omega) (by omega)) ?_
  rintro v F5 ⟨⟨r1, rfl, O, oc, rfl, _, hO⟩, hE5⟩
  replace hC := hE5 _ _ hC
  replace hC' := hE5 _ _ hC'
  replace hE5 := hE4.trans hE5
  (conv => whnf)
  refine ⟨⟨_, _, _, hC, rfl, Nat.le_refl 13, ?_⟩⟩
  (conv => whnf)
  refine call_of (h2 F5 (hr.mono hE5) (by omega) (by omega)) ?_
  rintro v F6 ⟨⟨r2, rfl, O', oc', rfl, _, hO'⟩, hE6⟩
  replace hC := hE6 _ _ hC
  replace hC' := hE6 _ _ hC'
  replace hO := hO.mono hE6
  replace hE6 := hE5.trans hE6
  have hbe := fun G hx hy => bytesEqual pg pg O O' oc oc' G hx hy
  rw [beq_self_eq_true] at hbe
  (conv => whnf)
  refine draw_walk tab_ok (by kernel_rfl) [0, 1, 2, 3, 4, 5, 6, 7, 8, 9, 10, 12, 13, 11, 14, 15, 16, 17, 18, 19, 21, 22, 20, 23, 24, 25, 26, 27, 28, 30, 31, 29, 32, 33, 34, 35, 36, 37, 38] (by kernel_rfl) ?_
  (conv => whnf)
  refine call_of (hbe F6 hO hO') ?_
  rintro v F6 ⟨rfl, rfl⟩
  (conv => whnf)
  (refine cond_split (fun _ => ?_) (fun h_ => absurd h_ (by simp)); (conv => whnf))
  refine load_blk hC rfl rfl ?_
  (conv => whnf)
  refine load_blk hC rfl rfl ?_
  (conv => whnf)
  refine call_of (k1 F6) ?_
  rintro v F6 ⟨rfl, rfl⟩
  refine ⟨Ext.refl _, ?_⟩
  (conv => whnf)
  refine call_of (k2 _) ?_
  rintro v F6 ⟨rfl, rfl⟩
  (conv => whnf)
  (refine cond_split (fun _ => ?_) (fun h_ => absurd h_ (by simp)); (conv => whnf))
  refine load_blk hC rfl rfl ?_
  (conv => whnf)
  refine load_blk hC rfl rfl ?_
  (conv => whnf)
  refine call_of (k3 F6) ?_
  rintro v F6 ⟨rfl, rfl⟩
  refine ⟨Ext.refl _, ?_⟩
  (conv => whnf)
  refine call_of (k4 _) ?_
  rintro v F6 ⟨rfl, rfl⟩
  (conv => whnf)
  (refine cond_split (fun _ => ?_) (fun h_ => absurd h_ (by simp)); (conv => whnf))
  refine ⟨⟨_, _, _, hC, rfl, Nat.le_refl 13, ?_⟩⟩
  (conv => whnf)
  refine ⟨⟨_, _, _, hC', rfl, Nat.le_refl 13, ?_⟩⟩
  (conv => whnf)
  refine ⟨⟨_, _, _, hC, rfl, Nat.le_refl 13, ?_⟩⟩
  (conv => whnf)
  refine ⟨⟨_, _, _, hC', rfl, Nat.le_refl 13, ?_⟩⟩
  (conv => whnf)
  refine call_of (h3 l1 l2 F6 (hr.mono hE6) (hr'.mono hE6)) ?_
  rintro v F7 ⟨⟨s1, rfl, hs1⟩, hE7⟩
  refine ⟨hE7, ?_⟩
  replace hE7 := hE6.trans hE7
  (conv => whnf)
  refine call_of (h4 l1 l2 F7 (hr.mono hE7) (hr'.mono hE7)) ?_
  rintro v F8 ⟨⟨s2, rfl, hs2⟩, hE8⟩
  replace hE8 := hE7.trans hE8
  obtain rfl : s1 = s2 := by rw [Bool.eq_iff_iff, hs1, hs2]
  (conv => whnf)
  (refine cond_split (fun _ => ?_) (fun h_ => absurd h_ (by simp)); (conv => whnf))
  refine call_of (out F8 hE8) ?_
  rintro v F9 ⟨rfl, hF9⟩
  (conv => whnf)
  exact ⟨rfl, hF9⟩
end Go.Proofs.Ytkahpaipciooiac.AlCmdEncodes

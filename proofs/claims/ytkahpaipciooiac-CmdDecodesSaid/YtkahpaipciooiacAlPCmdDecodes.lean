/- The law CmdDecodes holds of the program: proved over what is known of memory, each function by its contract. -/
import Derived.Test.YtkahpaipciooiacAlLawCmdDecodes
import Derived.Test.YtkahpaipciooiacCmdAwake2
namespace Go.Proofs.Ytkahpaipciooiac.AlCmdDecodes
open Go Go.Al Go.Proofs Go.RowKit Go.Proofs.Ytkahpaipciooiac.Al
set_option maxHeartbeats 8000000
set_option maxRecDepth 100000
set_option linter.unusedVariables false
set_option linter.unusedSimpArgs false
theorem law : LawK := by
  intro F xx w A c hc hK
  obtain ⟨b, rfl⟩ := bytes_of_wf w.2
  have hr : RowAt F A (bytesOf b) := elems_bytes hK
  clear hK w
  rw [List.length_map] at hc
  simp only [List.length_map]
  have h1 := Go.Proofs.Ytkahpaipciooiac.Al.decode b A c
  have h2 := Go.Proofs.Ytkahpaipciooiac.Al.rdecode b A c
  obtain ⟨hb1, hb2⟩ := both b
  have hm : (if okR b then rcmdOf b else zeroC) = (if okD b then cmdOf b else zeroC) := by
    rw [← hb1]
    cases h : okD b with
    | true => rw [if_pos rfl, if_pos rfl, (hb2 h).1]
    | false => rw [if_neg (by decide), if_neg (by decide)]
  rw [hm, ← hb1] at h2
  have hml : (if okD b then cmdOf b else zeroC).ls.length ≤ 10000 := by
    cases h : okD b with
    | true => rw [if_pos rfl]; have := lnOf_len b; show (lnOf b).out.length ≤ 10000; omega
    | false => exact Nat.zero_le _
  generalize (if okD b then cmdOf b else zeroC) = m at h1 h2 hml
  generalize (if okD b = true then (0 : Int) else 14) = e at h1 h2
  clear hb1 hb2 hm
  obtain ⟨k, y, x, f, o, n, p, d, l, a, ab, nm, ls⟩ := m
  simp only [Dec] at h1 h2
  dsimp only at hml
  have hs := fun B B' cc cc' G g g' => rsame k y x f o n p d l a ab nm ls k y x f o n p d l a ab nm ls B B' cc cc' G g g' hml hml
  (refine fn_walk tab_ok Try.func6 rfl rfl rfl rfl ?_; (conv => whnf))
  refine cond_split (fun h => ?_) (fun h => ?_)
  · (conv => whnf)
    refine call_of (awake _) ?_
    rintro v F9 ⟨rfl, hF9⟩
    (conv => whnf)
    exact ⟨rfl, hF9⟩
  · have hb : b.length ≤ 2000 := by
      have h : decide ((b.length : Int) > 2000) = false := h
      have := of_decide_eq_false h
      omega
    clear h
    (conv => whnf)
    refine call_of (h1 F hr (by omega) hc) ?_
    rintro v F1 ⟨⟨B, cc, rfl, hB⟩, hE1⟩
    (conv => whnf)
    refine new_step (cmdO 0 0 0 0 0 0 0 0 0 0 false .empty (.slice none 0 0)) rfl fun u hu => ?_
    have hZu := Heap.put_same F1 u (cmdO 0 0 0 0 0 0 0 0 0 0 false .empty (.slice none 0 0))
    have hXu : ∀ o, Ext F1 ((F1.put u (cmdO 0 0 0 0 0 0 0 0 0 0 false .empty (.slice none 0 0))).put u o) := fun o => ext_put_put hu
    generalize F1.put u _ = F2 at hZu hXu ⊢
    (conv => whnf)
    refine store_step u 0 _ (cmdC k y x f o n p d l a ab ⟨nm.toArray⟩ (.slice B ls.length cc)) rfl hZu rfl rfl (.inl (Nat.le_refl 0)) (one13 k y x f o n p d l a ab ⟨nm.toArray⟩ B ls.length cc) ?_
    replace hXu := hXu (cmdO k y x f o n p d l a ab ⟨nm.toArray⟩ (.slice B ls.length cc))
    have hMu := Heap.put_same F2 u (cmdO k y x f o n p d l a ab ⟨nm.toArray⟩ (.slice B ls.length cc))
    generalize F2.put u _ = F3 at hXu hMu ⊢
    have hE3 := hE1.trans hXu
    replace hB := hB.mono hXu
    (conv => whnf)
    refine call_of (h2 F3 (hr.mono hE3) (by omega) hc) ?_
    rintro v F4 ⟨⟨B', cc', rfl, hB'⟩, hE4⟩
    (conv => whnf)
    refine new_step (cmdO 0 0 0 0 0 0 0 0 0 0 false .empty (.slice none 0 0)) rfl fun q hq => ?_
    have hZq := Heap.put_same F4 q (cmdO 0 0 0 0 0 0 0 0 0 0 false .empty (.slice none 0 0))
    have hXq : ∀ o, Ext F4 ((F4.put q (cmdO 0 0 0 0 0 0 0 0 0 0 false .empty (.slice none 0 0))).put q o) := fun o => ext_put_put hq
    generalize F4.put q _ = F5 at hZq hXq ⊢
    (conv => whnf)
    refine store_step q 0 _ (cmdC k y x f o n p d l a ab ⟨nm.toArray⟩ (.slice B' ls.length cc')) rfl hZq rfl rfl (.inl (Nat.le_refl 0)) (one13 k y x f o n p d l a ab ⟨nm.toArray⟩ B' ls.length cc') ?_
    replace hXq := hXq (cmdO k y x f o n p d l a ab ⟨nm.toArray⟩ (.slice B' ls.length cc'))
    have hMq := Heap.put_same F5 q (cmdO k y x f o n p d l a ab ⟨nm.toArray⟩ (.slice B' ls.length cc'))
    generalize F5.put q _ = F6 at hXq hMq ⊢
    have hX := hE4.trans hXq
    replace hMu := hX _ _ hMu
    replace hB := hB.mono hX
    replace hB' := hB'.mono hXq
    have hE := hE3.trans hX
    refine short [3, 5, 4, 20] [.pointer (some ⟨u, 0, none⟩), .pointer (some ⟨q, 0, none⟩), .int .i64 e, .int .i64 e] rfl fun ρ => ?_
    (conv => whnf)
    (refine cond_split (fun _ => ?_) (fun h_ => absurd h_ (by simp)); (conv => whnf))
    refine ⟨⟨_, _, _, hMu, rfl, Nat.le_refl 13, ?_⟩⟩
    (conv => whnf)
    refine ⟨⟨_, _, _, hMq, rfl, Nat.le_refl 13, ?_⟩⟩
    (conv => whnf)
    refine call_of (hs B B' cc cc' F6 hB hB') ?_
    rintro v F7 ⟨⟨z, rfl, hz⟩, hE7⟩
    obtain rfl : z = true := hz.2 rfl
    (conv => whnf)
    refine call_of (awake _) ?_
    rintro v F9 ⟨rfl, hF9⟩
    (conv => whnf)
    exact ⟨rfl, hE.trans (hE7.trans hF9)⟩
end Go.Proofs.Ytkahpaipciooiac.AlCmdDecodes

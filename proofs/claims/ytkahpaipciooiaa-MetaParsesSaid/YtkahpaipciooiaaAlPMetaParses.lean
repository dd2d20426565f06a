/- The law MetaParses holds of the program: proved over what is known of memory, each function by its contract. -/
import Derived.Test.YtkahpaipciooiaaAlLawMetaParses
import Derived.Test.YtkahpaipciooiaaMetaLaw
namespace Go.Proofs.Ytkahpaipciooiaa.AlMetaParses
open Go Go.Al Go.Proofs Go.RowKit Go.Proofs.Ytkahpaipciooiaa.Al
set_option maxHeartbeats 8000000
set_option maxRecDepth 100000
set_option linter.unusedVariables false
set_option linter.unusedSimpArgs false
theorem law : LawK := by
  intro F x w A c hc hK
  obtain ⟨b, rfl⟩ := bytes_of_wf w.2
  have hr : RowAt F A (bytesOf b) := elems_bytes hK
  clear hK w
  rw [List.length_map] at hc
  simp only [List.length_map]
  have h1 := parseM b A c
  have h2 := rparseM b A c
  have hlen := pm_len b
  generalize pm b = m at h1 h2 hlen
  obtain ⟨d, f, n, k, l, e⟩ := m
  simp only [Parsed] at h1 h2
  have hs := fun B B' cc cc' G g g' => rsame d f n k d f n k l l B B' cc cc' G g g' (by dsimp only at hlen; omega) (by dsimp only at hlen; omega)
  have hq : ((d == d && (f == f && (n == n && k == k))) && l == l) = true := by simp
  rw [hq] at hs
  (refine fn_walk tab_ok Try.func3 rfl rfl rfl rfl ?_; (conv => whnf))
  refine cond_split (fun h => ?_) (fun h => ?_)
  · (conv => whnf)
    refine call_of (awake _) ?_
    rintro v F9 ⟨rfl, hF9⟩
    (conv => whnf)
    exact ⟨rfl, hF9⟩
  · have hb : b.length ≤ 1000 := by
      have h : decide ((b.length : Int) > 1000) = false := h
      have := of_decide_eq_false h
      omega
    clear h
    (conv => whnf)
    refine call_of (h1 F hr (by omega) hc) ?_
    rintro v F1 ⟨⟨B, cc, rfl, hB⟩, hE1⟩
    (conv => whnf)
    refine new_step zeroM rfl fun p hp => ?_
    have hZ := Heap.put_same F1 p zeroM
    have hE2 : ∀ o, Ext F1 ((F1.put p zeroM).put p o) := fun o => ext_put_put hp
    generalize F1.put p zeroM = F2 at hZ hE2 ⊢
    (conv => whnf)
    refine store_step p 0 _ #[.int .i64 d, .int .i64 f, .int .i64 n, .int .i64 k, .slice B l.length cc] rfl hZ rfl rfl (.inl (Nat.le_refl 0)) (oneM d f n k B l.length cc) ?_
    have hE3 := hE1.trans (hE2 (metaO d f n k (.slice B l.length cc)))
    have hM3 := Heap.put_same F2 p (metaO d f n k (.slice B l.length cc))
    have hB3 := hB.mono (hE2 (metaO d f n k (.slice B l.length cc)))
    generalize F2.put p _ = F3 at hE3 hM3 hB3 ⊢
    (conv => whnf)
    refine call_of (h2 F3 (hr.mono hE3) (by omega) hc) ?_
    rintro v F4 ⟨⟨B', cc', rfl, hB'⟩, hE4⟩
    (conv => whnf)
    refine new_step zeroM rfl fun q hq => ?_
    have hZ5 := Heap.put_same F4 q zeroM
    have hE5 : ∀ o, Ext F4 ((F4.put q zeroM).put q o) := fun o => ext_put_put hq
    generalize F4.put q zeroM = F5 at hZ5 hE5 ⊢
    (conv => whnf)
    refine store_step q 0 _ #[.int .i64 d, .int .i64 f, .int .i64 n, .int .i64 k, .slice B' l.length cc'] rfl hZ5 rfl rfl (.inl (Nat.le_refl 0)) (oneM d f n k B' l.length cc') ?_
    have hE6 := hE5 (metaO d f n k (.slice B' l.length cc'))
    have hM6' := Heap.put_same F5 q (metaO d f n k (.slice B' l.length cc'))
    generalize F5.put q _ = F6 at hE6 hM6' ⊢
    have hM6 := hE6 _ _ (hE4 _ _ hM3)
    have hB6 := hB3.mono (hE4.trans hE6)
    have hB6' := hB'.mono hE6
    have hE := hE3.trans (hE4.trans hE6)
    refine short [3, 5, 4, 20] [.pointer (some ⟨p, 0, none⟩), .pointer (some ⟨q, 0, none⟩), .int .i64 e, .int .i64 e] rfl fun ρ => ?_
    (conv => whnf)
    refine ⟨⟨_, _, _, hM6, rfl, Nat.le_refl 5, ?_⟩⟩
    (conv => whnf)
    refine ⟨⟨_, _, _, hM6', rfl, Nat.le_refl 5, ?_⟩⟩
    (conv => whnf)
    refine call_of (hs B B' cc cc' F6 hB6 hB6') ?_
    rintro v F7 ⟨rfl, hE7⟩
    (conv => whnf)
    (refine cond_split (fun _ => ?_) (fun h_ => absurd h_ (by simp)); (conv => whnf))
    refine call_of (awake _) ?_
    rintro v F9 ⟨rfl, hF9⟩
    (conv => whnf)
    exact ⟨rfl, hE.trans (hE7.trans hF9)⟩
end Go.Proofs.Ytkahpaipciooiaa.AlMetaParses

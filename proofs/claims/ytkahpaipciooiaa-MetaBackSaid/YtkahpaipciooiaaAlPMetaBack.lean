/- The law MetaBack holds of the program: proved over what is known of memory, each function by its contract. -/
import Derived.Test.YtkahpaipciooiaaAlLawMetaBack
import Derived.Test.YtkahpaipciooiaaMetaLaw2
namespace Go.Proofs.Ytkahpaipciooiaa.AlMetaBack
open Go Go.Al Go.Proofs Go.RowKit Go.Proofs.Ytkahpaipciooiaa.Al
set_option maxHeartbeats 8000000
set_option maxRecDepth 100000
set_option linter.unusedVariables false
set_option linter.unusedSimpArgs false
theorem em_01 (d f n k : Int) (l : List Int) : (emS d f n k l = 0 ∧ pm (pgS d f n k l) = ⟨d, f, n, k, l, 0⟩) ∨ emS d f n k l = 1 := by
  unfold emS pgS
  cases h : mayB d f n k l with
  | true => exact .inl ⟨rfl, pm_page d f n k l h⟩
  | false => exact .inr rfl
theorem law : LawK := by
  intro F x w cs hK y wy A' c' hc' hK'
  obtain ⟨A, c, rfl, hr⟩ := meta_open hK
  obtain ⟨b, rfl⟩ := bytes_of_wf wy.2
  have hr' : RowAt F A' (bytesOf b) := elems_bytes hK'
  clear hK hK' w wy
  rw [List.length_map] at hc'
  simp only [List.length_map]
  obtain ⟨d, f, n, k, l⟩ := x
  dsimp only at hr ⊢
  have h1 := putM d f n k l A c
  have hem := em_01 d f n k l
  have hpl := pg_len d f n k l
  generalize emS d f n k l = e at h1 hem
  generalize pgS d f n k l = pg at h1 hem hpl
  have h2 := parseM pg
  have h5 := parseM b A' c'
  have hpc := pm_cases b
  have hml := pm_len b
  generalize pm b = m at h5 hpc hml
  have h3 := fun A'' c'' G hx hy => same d f n k d f n k l l A A'' c c'' G hx hy
  have hq3 : ((d == d && (f == f && (n == n && k == k))) && l == l) = true := by simp
  rw [hq3] at h3
  (refine fn_walk tab_ok Try.func5 rfl rfl rfl rfl ?_; (conv => whnf))
  refine new_step (metaO d f n k (.slice A l.length c)) rfl fun p hp => ?_
  have hE := Ext.new hp (metaO d f n k (.slice A l.length c))
  have hC := Heap.put_same F p (metaO d f n k (.slice A l.length c))
  generalize F.put p _ = F2 at hE hC ⊢
  have out : ∀ F', Ext F F' → FnK Try.prog 6 #[] F' (fun v F' => v = .bool true ∧ Ext F F') := fun F' hF' => (awake F').mono fun v G h => ⟨h.1, hF'.trans h.2⟩
  (conv => whnf)
  refine load_blk hC rfl rfl ?_
  (conv => whnf)
  refine cond_split (fun h => ?_) (fun h => ?_)
  case refine_2 =>
    (conv => whnf)
    refine call_of (out _ hE) ?_
    rintro v F9 ⟨rfl, hF9⟩
    (conv => whnf)
    exact ⟨rfl, hF9⟩
  have hl : l.length ≤ 60 := by
    have h : (!decide ((l.length : Int) > 60)) = true := h
    simp at h
    omega
  (conv => whnf)
  refine cond_split (fun h => ?_) (fun h => ?_)
  · (conv => whnf)
    refine call_of (out _ hE) ?_
    rintro v F9 ⟨rfl, hF9⟩
    (conv => whnf)
    exact ⟨rfl, hF9⟩
  have hb : b.length ≤ 1000 := by
    have h : decide ((b.length : Int) > 1000) = false := h
    have := of_decide_eq_false h
    omega
  (conv => whnf)
  refine ⟨⟨_, _, _, hC, rfl, Nat.le_refl 5, ?_⟩⟩
  (conv => whnf)
  refine call_of (h1 F2 (hr.mono hE) (by omega)) ?_
  rintro v F3 ⟨⟨r, rfl, B1, cc1, rfl, hcc1, hB1⟩, hE3⟩
  have hC3 := hE3 _ _ hC
  replace hE3 := hE.trans hE3
  rcases hem with ⟨rfl, hpm⟩ | rfl
  · rw [hpm] at h2
    simp only [Parsed] at h2
    (conv => whnf)
    refine call_of (h2 B1 cc1 F3 hB1 (by omega) hcc1) ?_
    rintro v F4 ⟨⟨B, cc, rfl, hB⟩, hE4⟩
    have hC4 := hE4 _ _ hC3
    replace hE4 := hE3.trans hE4
    (conv => whnf)
    refine new_step zeroM rfl fun q hq => ?_
    have hZ := Heap.put_same F4 q zeroM
    have hE5 : ∀ o, Ext F4 ((F4.put q zeroM).put q o) := fun o => ext_put_put hq
    generalize F4.put q zeroM = F5 at hZ hE5 ⊢
    (conv => whnf)
    refine store_step q 0 _ #[.int .i64 d, .int .i64 f, .int .i64 n, .int .i64 k, .slice B l.length cc] rfl hZ rfl rfl (.inl (Nat.le_refl 0)) (oneM d f n k B l.length cc) ?_
    have hE6 := hE4.trans (hE5 (metaO d f n k (.slice B l.length cc)))
    have hM6 := Heap.put_same F5 q (metaO d f n k (.slice B l.length cc))
    have hB6 := hB.mono (hE5 (metaO d f n k (.slice B l.length cc)))
    have hC6 := (hE5 (metaO d f n k (.slice B l.length cc))) _ _ hC4
    generalize F5.put q _ = F6 at hE6 hM6 hB6 hC6 ⊢
    refine short [1, 2, 7, 34] [.slice A' b.length c', .pointer (some ⟨p, 0, none⟩), .pointer (some ⟨q, 0, none⟩), .int .i64 0] rfl fun ρ => ?_
    (conv => whnf)
    refine ⟨⟨_, _, _, hC6, rfl, Nat.le_refl 5, ?_⟩⟩
    (conv => whnf)
    refine ⟨⟨_, _, _, hM6, rfl, Nat.le_refl 5, ?_⟩⟩
    (conv => whnf)
    refine call_of (h3 B cc F6 (hr.mono hE6) hB6 (by omega) (by omega)) ?_
    rintro v F3 ⟨rfl, hE7⟩
    replace hE3 := hE6.trans hE7
    (conv => whnf)
    clear h1 h2 h3 hC
    rcases hpc with rfl | ⟨he0, hmy, hpg⟩
    · simp only [Parsed] at h5
      refine call_of (h5 F3 (hr'.mono hE3) (by omega) hc') ?_
      rintro v F4 ⟨⟨B, cc, rfl, hB⟩, hE4⟩
      replace hE4 := hE3.trans hE4
      (conv => whnf)
      refine new_step zeroM rfl fun q hq => ?_
      have hZ := Heap.put_same F4 q zeroM
      have hE5 : ∀ o, Ext F4 ((F4.put q zeroM).put q o) := fun o => ext_put_put hq
      generalize F4.put q zeroM = F5 at hZ hE5 ⊢
      (conv => whnf)
      refine store_step q 0 _ #[.int .i64 0, .int .i64 0, .int .i64 0, .int .i64 0, .slice B 0 cc] rfl hZ rfl rfl (.inl (Nat.le_refl 0)) (oneM 0 0 0 0 B 0 cc) ?_
      have hE6 := hE4.trans (hE5 (metaO 0 0 0 0 (.slice B 0 cc)))
      have hM6 := Heap.put_same F5 q (metaO 0 0 0 0 (.slice B 0 cc))
      have hB6 := hB.mono (hE5 (metaO 0 0 0 0 (.slice B 0 cc)))
      generalize F5.put q _ = F6 at hE6 hM6 hB6 ⊢
      refine short [1, 9, 47] [.slice A' b.length c', .pointer (some ⟨q, 0, none⟩), .int .i64 4] rfl fun ρ => ?_
      (conv => whnf)
      refine ⟨⟨_, _, _, hM6, rfl, Nat.le_refl 5, ?_⟩⟩
      (conv => whnf)
      refine call_of (same 0 0 0 0 0 0 0 0 [] [] B none cc 0 F6 (RowAt.nil _ _) (RowAt.nil _ _) (by decide) (by decide)) ?_
      rintro v F7 ⟨rfl, hE7⟩
      replace hE7 := hE6.trans hE7
      (conv => whnf)
      refine call_of (out F7 hE7) ?_
      rintro v F9 ⟨rfl, hF9⟩
      (conv => whnf)
      exact ⟨rfl, hF9⟩
    · obtain ⟨d2, f2, n2, k2, l2, e2⟩ := m
      dsimp only at he0 hmy hpg hml
      subst he0
      simp only [Parsed] at h5
      have h6 := fun G B cc hg => putOk d2 f2 n2 k2 l2 B cc G hg hmy
      rw [hpg] at h6
      have hbe := fun B3 c3 G hx hy => bytesEqual b b B3 A' c3 c' G hx hy
      rw [beq_self_eq_true] at hbe
      refine call_of (h5 F3 (hr'.mono hE3) (by omega) hc') ?_
      rintro v F4 ⟨⟨B, cc, rfl, hB⟩, hE4⟩
      replace hE4 := hE3.trans hE4
      (conv => whnf)
      refine new_step zeroM rfl fun q hq => ?_
      have hZ := Heap.put_same F4 q zeroM
      have hE5 : ∀ o, Ext F4 ((F4.put q zeroM).put q o) := fun o => ext_put_put hq
      generalize F4.put q zeroM = F5 at hZ hE5 ⊢
      (conv => whnf)
      refine store_step q 0 _ #[.int .i64 d2, .int .i64 f2, .int .i64 n2, .int .i64 k2, .slice B l2.length cc] rfl hZ rfl rfl (.inl (Nat.le_refl 0)) (oneM d2 f2 n2 k2 B l2.length cc) ?_
      have hE6 := hE4.trans (hE5 (metaO d2 f2 n2 k2 (.slice B l2.length cc)))
      have hM6 := Heap.put_same F5 q (metaO d2 f2 n2 k2 (.slice B l2.length cc))
      have hB6 := hB.mono (hE5 (metaO d2 f2 n2 k2 (.slice B l2.length cc)))
      generalize F5.put q _ = F6 at hE6 hM6 hB6 ⊢
      refine short [1, 9, 47] [.slice A' b.length c', .pointer (some ⟨q, 0, none⟩), .int .i64 0] rfl fun ρ => ?_
      (conv => whnf)
      refine ⟨⟨_, _, _, hM6, rfl, Nat.le_refl 5, ?_⟩⟩
      (conv => whnf)
      refine call_of (h6 F6 B cc hB6) ?_
      rintro v F7 ⟨⟨r, rfl, B3, c3, rfl, hc3, hB3⟩, hE7⟩
      replace hE7 := hE6.trans hE7
      (conv => whnf)
      refine call_of (hbe B3 c3 F7 hB3 (hr'.mono hE7)) ?_
      rintro v F7 ⟨rfl, rfl⟩
      (conv => whnf)
      refine call_of (out F7 hE7) ?_
      rintro v F9 ⟨rfl, hF9⟩
      (conv => whnf)
      exact ⟨rfl, hF9⟩
  · (conv => whnf)
    clear h1 h2 h3 hC
    rcases hpc with rfl | ⟨he0, hmy, hpg⟩
    · simp only [Parsed] at h5
      refine call_of (h5 F3 (hr'.mono hE3) (by omega) hc') ?_
      rintro v F4 ⟨⟨B, cc, rfl, hB⟩, hE4⟩
      replace hE4 := hE3.trans hE4
      (conv => whnf)
      refine new_step zeroM rfl fun q hq => ?_
      have hZ := Heap.put_same F4 q zeroM
      have hE5 : ∀ o, Ext F4 ((F4.put q zeroM).put q o) := fun o => ext_put_put hq
      generalize F4.put q zeroM = F5 at hZ hE5 ⊢
      (conv => whnf)
      refine store_step q 0 _ #[.int .i64 0, .int .i64 0, .int .i64 0, .int .i64 0, .slice B 0 cc] rfl hZ rfl rfl (.inl (Nat.le_refl 0)) (oneM 0 0 0 0 B 0 cc) ?_
      have hE6 := hE4.trans (hE5 (metaO 0 0 0 0 (.slice B 0 cc)))
      have hM6 := Heap.put_same F5 q (metaO 0 0 0 0 (.slice B 0 cc))
      have hB6 := hB.mono (hE5 (metaO 0 0 0 0 (.slice B 0 cc)))
      generalize F5.put q _ = F6 at hE6 hM6 hB6 ⊢
      refine short [1, 9, 47] [.slice A' b.length c', .pointer (some ⟨q, 0, none⟩), .int .i64 4] rfl fun ρ => ?_
      (conv => whnf)
      refine ⟨⟨_, _, _, hM6, rfl, Nat.le_refl 5, ?_⟩⟩
      (conv => whnf)
      refine call_of (same 0 0 0 0 0 0 0 0 [] [] B none cc 0 F6 (RowAt.nil _ _) (RowAt.nil _ _) (by decide) (by decide)) ?_
      rintro v F7 ⟨rfl, hE7⟩
      replace hE7 := hE6.trans hE7
      (conv => whnf)
      refine call_of (out F7 hE7) ?_
      rintro v F9 ⟨rfl, hF9⟩
      (conv => whnf)
      exact ⟨rfl, hF9⟩
    · obtain ⟨d2, f2, n2, k2, l2, e2⟩ := m
      dsimp only at he0 hmy hpg hml
      subst he0
      simp only [Parsed] at h5
      have h6 := fun G B cc hg => putOk d2 f2 n2 k2 l2 B cc G hg hmy
      rw [hpg] at h6
      have hbe := fun B3 c3 G hx hy => bytesEqual b b B3 A' c3 c' G hx hy
      rw [beq_self_eq_true] at hbe
      refine call_of (h5 F3 (hr'.mono hE3) (by omega) hc') ?_
      rintro v F4 ⟨⟨B, cc, rfl, hB⟩, hE4⟩
      replace hE4 := hE3.trans hE4
      (conv => whnf)
      refine new_step zeroM rfl fun q hq => ?_
      have hZ := Heap.put_same F4 q zeroM
      have hE5 : ∀ o, Ext F4 ((F4.put q zeroM).put q o) := fun o => ext_put_put hq
      generalize F4.put q zeroM = F5 at hZ hE5 ⊢
      (conv => whnf)
      refine store_step q 0 _ #[.int .i64 d2, .int .i64 f2, .int .i64 n2, .int .i64 k2, .slice B l2.length cc] rfl hZ rfl rfl (.inl (Nat.le_refl 0)) (oneM d2 f2 n2 k2 B l2.length cc) ?_
      have hE6 := hE4.trans (hE5 (metaO d2 f2 n2 k2 (.slice B l2.length cc)))
      have hM6 := Heap.put_same F5 q (metaO d2 f2 n2 k2 (.slice B l2.length cc))
      have hB6 := hB.mono (hE5 (metaO d2 f2 n2 k2 (.slice B l2.length cc)))
      generalize F5.put q _ = F6 at hE6 hM6 hB6 ⊢
      refine short [1, 9, 47] [.slice A' b.length c', .pointer (some ⟨q, 0, none⟩), .int .i64 0] rfl fun ρ => ?_
      (conv => whnf)
      refine ⟨⟨_, _, _, hM6, rfl, Nat.le_refl 5, ?_⟩⟩
      (conv => whnf)
      refine call_of (h6 F6 B cc hB6) ?_
      rintro v F7 ⟨⟨r, rfl, B3, c3, rfl, hc3, hB3⟩, hE7⟩
      replace hE7 := hE6.trans hE7
      (conv => whnf)
      refine call_of (hbe B3 c3 F7 hB3 (hr'.mono hE7)) ?_
      rintro v F7 ⟨rfl, rfl⟩
      (conv => whnf)
      refine call_of (out F7 hE7) ?_
      rintro v F9 ⟨rfl, hF9⟩
      (conv => whnf)
      exact ⟨rfl, hF9⟩
end Go.Proofs.Ytkahpaipciooiaa.AlMetaBack

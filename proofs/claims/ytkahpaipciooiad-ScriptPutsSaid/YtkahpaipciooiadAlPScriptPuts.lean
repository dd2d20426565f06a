/- The law ScriptPuts holds of the program: proved over what is known of memory, each function by its contract. -/
import Derived.Test.YtkahpaipciooiadAlLawScriptPuts
import Derived.Test.YtkahpaipciooiadScrAwake
namespace Go.Proofs.Ytkahpaipciooiad.AlScriptPuts
open Go Go.Al Go.Proofs Go.RowKit Go.Proofs.Ytkahpaipciooiad.Al
set_option maxHeartbeats 8000000
set_option maxRecDepth 100000
set_option linter.unusedVariables false
set_option linter.unusedSimpArgs false
theorem law : LawK := by
  intro F xx w A c hc hK x1 w1 cs1 hK1 x2 w2 cs2 hK2
  obtain ⟨rs, hl, hr, hok⟩ := evs_open w.2 hK
  rw [← hl]
  obtain ⟨r1, h1, ho1⟩ := ev_open w1 hK1
  obtain ⟨r2, h2, ho2⟩ := ev_open w2 hK2
  obtain rfl : cs1 = evA r1 := Array.ext' h1
  obtain rfl : cs2 = evA r2 := Array.ext' h2
  clear hK w hc hl hK1 w1 h1 hK2 w2 h2
  have hli : lightL rs = true → rs.length ≤ 40 ∧ ∀ r ∈ rs, r.e.bs.length ≤ 600 ∧ r.e.ks.length ≤ 200 := by
    intro h
    unfold lightL at h
    rw [Bool.and_eq_true, decide_eq_true_eq, List.all_eq_true] at h
    refine ⟨h.1, fun r hr => ?_⟩
    have := h.2 r hr
    unfold lightB at this
    rw [Bool.and_eq_true, decide_eq_true_eq, decide_eq_true_eq] at this
    exact this
  have hcl := light rs A c
  generalize lightL rs = z at hli hcl
  obtain ⟨⟨k, n, bs, ks⟩, A1, c1, B1, cc1⟩ := r1
  obtain ⟨⟨k', n', bs', ks'⟩, A2, c2, B2, cc2⟩ := r2
  obtain ⟨a1, a2, a3⟩ := ho1
  obtain ⟨b1, b2, b3⟩ := ho2
  dsimp only at a1 a2 a3 b1 b2 b3
  (refine fn_walk tab_ok Try.func8 rfl rfl rfl rfl ?_; (conv => whnf))
  refine new_step (evO k n (.slice A1 bs.length c1) (.slice B1 ks.length cc1)) rfl fun u hu => ?_
  have hE := Ext.new hu (evO k n (.slice A1 bs.length c1) (.slice B1 ks.length cc1))
  have hU := Heap.put_same F u (evO k n (.slice A1 bs.length c1) (.slice B1 ks.length cc1))
  generalize F.put u _ = F1 at hE hU ⊢
  (conv => whnf)
  refine new_step (evO k' n' (.slice A2 bs'.length c2) (.slice B2 ks'.length cc2)) rfl fun y hy => ?_
  have hX := Ext.new hy (evO k' n' (.slice A2 bs'.length c2) (.slice B2 ks'.length cc2))
  have hY := Heap.put_same F1 y (evO k' n' (.slice A2 bs'.length c2) (.slice B2 ks'.length cc2))
  replace hU := hX _ _ hU
  replace hE := hE.trans hX
  generalize F1.put y _ = F2 at hE hU hY ⊢
  have out : ∀ F', Ext F F' → FnK Try.prog 23 #[] F' (fun v F' => v = .bool true ∧ Ext F F') := fun F' hF' => (awake F').mono fun v G h => ⟨h.1, hF'.trans h.2⟩
  clear hX hu hy
  (conv => whnf)
  refine call_of (hcl F2 (hr.mono hE)) ?_
  rintro v F3 ⟨rfl, hE3⟩
  replace hU := hE3 _ _ hU
  replace hY := hE3 _ _ hY
  replace hE := hE.trans hE3
  clear hcl hE3
  cases z with
  | false =>
    (conv => whnf)
    refine call_of (out _ hE) ?_
    rintro v F9 ⟨rfl, hF9⟩
    (conv => whnf)
    exact ⟨rfl, hF9⟩
  | true =>
  obtain ⟨h40, hsz⟩ := hli rfl
  clear hli
  (conv => whnf)
  refine load_blk hU rfl rfl ?_
  (conv => whnf)
  refine cond_split (fun h => ?_) (fun h => ?_)
  case refine_2 =>
    (conv => whnf)
    refine call_of (out _ hE) ?_
    rintro v F9 ⟨rfl, hF9⟩
    (conv => whnf)
    exact ⟨rfl, hF9⟩
  clear h
  (conv => whnf)
  refine load_blk hY rfl rfl ?_
  (conv => whnf)
  refine cond_split (fun h => ?_) (fun h => ?_)
  case refine_2 =>
    (conv => whnf)
    refine call_of (out _ hE) ?_
    rintro v F9 ⟨rfl, hF9⟩
    (conv => whnf)
    exact ⟨rfl, hF9⟩
  clear h
  (conv => whnf)
  refine load_blk hU rfl rfl ?_
  (conv => whnf)
  refine cond_split (fun h => ?_) (fun h => ?_)
  case refine_2 =>
    (conv => whnf)
    refine call_of (out _ hE) ?_
    rintro v F9 ⟨rfl, hF9⟩
    (conv => whnf)
    exact ⟨rfl, hF9⟩
  have l1 : ks.length ≤ 400 := by
    have h : (!decide (((ks.length : Nat) : Int) > 400)) = true := h
    simp at h; omega
  clear h
  (conv => whnf)
  refine load_blk hY rfl rfl ?_
  (conv => whnf)
  refine cond_split (fun h => ?_) (fun h => ?_)
  · (conv => whnf)
    refine call_of (out _ hE) ?_
    rintro v F9 ⟨rfl, hF9⟩
    (conv => whnf)
    exact ⟨rfl, hF9⟩
  have l2 : ks'.length ≤ 400 := by
    have h : decide (((ks'.length : Nat) : Int) > 400) = false := h
    have := of_decide_eq_false h
    omega
  clear h
  have hch := fun G hg => check k n bs ks A1 c1 B1 cc1 G hg (by omega)
  have hrch := fun G hg => rcheck k n bs ks A1 c1 B1 cc1 G hg (by omega)
  generalize checkB ⟨k, n, bs, ks⟩ = ck at hch hrch
  have hp := fun G hg ho => put rs A c G hg ho hsz (by omega)
  have hrp := fun G hg ho => rput rs A c G hg ho hsz (by omega)
  generalize putS (rs.map (·.e)) = pb at hp hrp
  have hs := fun G e1 e2 e3 e4 => same k n bs ks k' n' bs' ks' A1 c1 B1 cc1 A2 c2 B2 cc2 G e1 e2 e3 e4 (by omega) (by omega)
  have hrs := fun G e1 e2 e3 e4 => rsame k n bs ks k' n' bs' ks' A1 c1 B1 cc1 A2 c2 B2 cc2 G e1 e2 e3 e4 (by omega) (by omega)
  have hbe := fun (A B : Option Addr) c c' G hx hy => bytesEqual pb pb A B c c' G hx hy
  rw [beq_self_eq_true] at hbe
  refine short [0, 4, 5] [.slice A rs.length c, .pointer (some ⟨u, 0, none⟩), .pointer (some ⟨y, 0, none⟩)] rfl fun ρ => ?_
  (conv => whnf)
  refine draw_tree tab_ok (by kernel_rfl) [0, 2, 13, 14, 16, 17] (DT.row [0, 2, 1, 3, 4, 5, 6, 8, 7, 9, 10, 11, 12, 13, 14, 16, 17, 15, 18, 19, 20, 21, 22, 23, 24] .nil) (by kernel_rfl) ?_
  (conv => whnf)
  refine ⟨⟨_, _, _, hU, rfl, Nat.le_refl 4, ?_⟩⟩
  (conv => whnf)
  refine ⟨⟨_, _, _, hU, rfl, Nat.le_refl 4, ?_⟩⟩
  (conv => whnf)
  refine call_of (hch F3 (a2.mono hE)) ?_
  rintro v F4 ⟨rfl, hE4⟩
  refine ⟨hE4, ?_⟩
  (conv => whnf)
  refine call_of (hrch F4 (a2.mono (hE.trans hE4))) ?_
  rintro v F5 ⟨rfl, hE5⟩
  replace hE4 := hE4.trans hE5
  refine ⟨hE4, ?_⟩
  cases ck
  all_goals
    (conv => whnf)
    refine call_of (hp F5 (hr.mono (hE.trans hE4)) (fun r h => (hok r h).mono (hE.trans hE4))) ?_
    rintro v F6 hM
    obtain ⟨A6, c6, rfl, _, hR6⟩ := hM.own.row
    have hE6 := hE4.trans hM.ext
    refine ⟨hE6, ?_⟩
    (conv => whnf)
    refine call_of (hrp F6 (hr.mono (hE.trans hE6)) (fun r h => (hok r h).mono (hE.trans hE6))) ?_
    rintro v F7 hM'
    obtain ⟨A7, c7, rfl, _, hR7⟩ := hM'.own.row
    have hE7 := hE6.trans hM'.ext
    refine ⟨hE7, ?_⟩
    (conv => whnf)
    refine call_of (hbe A6 A7 c6 c7 F7 (hR6.mono hM'.ext) hR7) ?_
    rintro v F7 ⟨rfl, rfl⟩
    refine ⟨hE7, ?_⟩
    (conv => whnf)
    refine ⟨⟨_, _, _, hU, rfl, Nat.le_refl 4, ?_⟩⟩
    (conv => whnf)
    refine ⟨⟨_, _, _, hY, rfl, Nat.le_refl 4, ?_⟩⟩
    (conv => whnf)
    refine ⟨⟨_, _, _, hU, rfl, Nat.le_refl 4, ?_⟩⟩
    (conv => whnf)
    refine ⟨⟨_, _, _, hY, rfl, Nat.le_refl 4, ?_⟩⟩
    (conv => whnf)
    have hEE := hE.trans hE7
    refine call_of (hs F7 (a1.mono hEE) (a2.mono hEE) (b1.mono hEE) (b2.mono hEE)) ?_
    rintro v F8 ⟨⟨z1, rfl, hz1⟩, hE8⟩
    replace hE8 := hE7.trans hE8
    refine ⟨hE8, ?_⟩
    (conv => whnf)
    replace hEE := hE.trans hE8
    refine call_of (hrs F8 (a1.mono hEE) (a2.mono hEE) (b1.mono hEE) (b2.mono hEE)) ?_
    rintro v F9 ⟨⟨z2, rfl, hz2⟩, hE9⟩
    replace hE9 := hE8.trans hE9
    refine ⟨hE9, ?_⟩
    obtain rfl : z1 = z2 := by rw [Bool.eq_iff_iff, hz1, hz2]
    cases z1
    all_goals
      (conv => whnf)
      refine call_of (awake _) ?_
      rintro v F10 ⟨rfl, hF10⟩
      replace hE9 := hE9.trans hF10
      refine ⟨hE9, ?_⟩
      (conv => whnf)
      exact ⟨rfl, hE.trans hE9⟩
end Go.Proofs.Ytkahpaipciooiad.AlScriptPuts

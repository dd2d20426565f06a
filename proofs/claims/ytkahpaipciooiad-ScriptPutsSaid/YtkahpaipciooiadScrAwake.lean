/- Events as arguments; the contract of the laws' awake. -/
import Derived.Test.YtkahpaipciooiadScrLaw
import Derived.Test.YtkahpaipciooiadScrF
import Derived.Test.YtkahpaipciooiadAlData
namespace Go.Proofs.Ytkahpaipciooiad.Al
open Go Go.Al Go.Proofs Go.RowKit
set_option maxHeartbeats 8000000
set_option maxRecDepth 100000
set_option linter.unusedVariables false
set_option linter.unusedSimpArgs false
abbrev evWf : Int × (Int × ((List Int) × (List Int))) → Prop := (fun p => (fun n => (Lit.int .i64 n).wf = true) p.1 ∧ (fun p => (fun n => (Lit.int .i64 n).wf = true) p.1 ∧ (fun p => (fun xs => xs.length ≤ maxLen ∧ ∀ x ∈ xs, (fun n => (Lit.int .u8 n).wf = true) x) p.1 ∧ (fun xs => xs.length ≤ maxLen ∧ ∀ x ∈ xs, (fun n => (Lit.int .i64 n).wf = true) x) p.2) p.2) p.2)
abbrev evK : Kind (Int × (Int × ((List Int) × (List Int)))) := kPair 1 (kInt .i64) (kPair 1 (kInt .i64) (kPair 1 (kSlice 1 (kInt .u8)) (kSlice 1 (kInt .i64))))
/-- An event as an argument. -/
theorem ev_open {F : Heap} {x : Int × (Int × ((List Int) × (List Int)))} {cs : List Value} (w : evWf x) (h : evK F x cs) : ∃ r : ER, cs = (evA r).toList ∧ EvOk F r := by
  obtain ⟨k, n, bs, ks⟩ := x
  obtain ⟨c1, d1, rfl, _, rfl, c2, d2, rfl, _, rfl, c3, d3, rfl, _, ⟨A, c, rfl, hc, h1⟩, B, cc, rfl, hcc, h2⟩ := h
  obtain ⟨b, rfl⟩ := bytes_of_wf w.2.2.1.2
  have hr : RowAt F A (bytesOf b) := elems_bytes h1
  refine ⟨⟨⟨k, n, b, ks⟩, A, c, B, cc⟩, ?_, hr, elems_ints h2, ?_⟩
  · simp [evA, evC]
  · simpa using hc
theorem evs_open {F : Heap} {A : Option Addr} {xs : List (Int × (Int × ((List Int) × (List Int))))} (w : ∀ x ∈ xs, evWf x) (h : Elems F A 4 evK xs) : ∃ rs : List ER, rs.length = xs.length ∧ RowAt F A (evsV rs) ∧ ∀ r ∈ rs, EvOk F r := by
  have hex : ∀ j (hj : j < xs.length), ∃ r : ER, EvOk F r ∧ ∃ a, A = some a ∧ ∀ q u, (evA r).toList[q]? = some u → F.cell? (a.add (j * 4 + q)) = some u := by
    intro j hj
    obtain ⟨a, c, h1, h2, h3, h4⟩ := h j _ (List.getElem?_eq_getElem hj)
    obtain ⟨r, rfl, hr⟩ := ev_open (w _ (List.getElem_mem hj)) h3
    exact ⟨r, hr, a, h1, h4⟩
  have key : ∀ n, n ≤ xs.length → ∃ rs : List ER, rs.length = n ∧ ∀ j r, rs[j]? = some r → EvOk F r ∧ ∃ a, A = some a ∧ ∀ q u, (evA r).toList[q]? = some u → F.cell? (a.add (j * 4 + q)) = some u := by
    intro n
    induction n with
    | zero => intro _; exact ⟨[], rfl, fun j r h => by simp at h⟩
    | succ n ih =>
      intro hn
      obtain ⟨rs, hl, hp⟩ := ih (by omega)
      obtain ⟨r, hr⟩ := hex n (by omega)
      refine ⟨rs ++ [r], by simp [hl], fun j q hq => ?_⟩
      by_cases hj : j < rs.length
      · rw [List.getElem?_append_left hj] at hq
        exact hp j q hq
      · rw [List.getElem?_append_right (by omega)] at hq
        have hj0 : j - rs.length = 0 := by
          have := (List.getElem?_eq_some_iff.1 hq).1
          simp at this; omega
        rw [hj0] at hq
        obtain rfl : r = q := by simpa using hq
        obtain rfl : j = n := by omega
        exact hr
  obtain ⟨rs, hl, hp⟩ := key xs.length (Nat.le_refl _)
  refine ⟨rs, hl, ?_, fun r hr => ?_⟩
  · intro j v hj
    have hlt : j < (evsV rs).length := (List.getElem?_eq_some_iff.1 hj).1
    rw [evsV_len] at hlt
    have hq : j / 4 < rs.length := by omega
    have hx := List.getElem?_eq_getElem hq
    obtain ⟨_, a, h1, h2⟩ := hp _ _ hx
    refine ⟨a, h1, ?_⟩
    have hat := evsV_at _ _ _ hx
    have := h2 (j % 4) v (by rw [← hat, List.getElem?_take, if_pos (by omega), List.getElem?_drop, show j / 4 * 4 + j % 4 = j by omega]; exact hj)
    rwa [show j / 4 * 4 + j % 4 = j by omega] at this
  · obtain ⟨j, hj, rfl⟩ := List.getElem_of_mem hr
    exact (hp j _ (List.getElem?_eq_getElem hj)).1
def e0 : ED := ⟨2, 3, [], []⟩
theorem parse0 : parseS [2, 0, 3, 0, 0, 0, 1] = [e0] := by
  have h : checkB e0 = true := by decide +kernel
  have hc : codeB e0 = [2, 0, 3, 0, 0, 0] := by decide +kernel
  obtain ⟨h1, h2, h3⟩ := first_back h [1]
  rw [hc] at h1 h2 h3
  change firstOk [2, 0, 3, 0, 0, 0, 1] at h1
  change evOf [2, 0, 3, 0, 0, 0, 1] = e0 at h2
  change List.drop (firstN [2, 0, 3, 0, 0, 0, 1]) [2, 0, 3, 0, 0, 0, 1] = [1] at h3
  rw [parseS_yes h1, h2, h3, parseS_no]
  intro h
  exact absurd h.1 (by decide)
theorem put0 : putS [e0] = [2, 0, 3, 0, 0, 0] := by decide +kernel
theorem awake (F : Heap) : FnK Try.prog 23 #[] F (fun v F' => v = .bool true ∧ Ext F F') := by
  have hp := fun g G hg => put [⟨e0, none, 0, none, 0⟩] (some ⟨g, 0, none⟩) 1 G hg (by intro r hr; rw [List.mem_singleton.1 hr]; exact ⟨RowAt.nil _ _, RowAt.nil _ _, Nat.le_refl _⟩) (by intro r hr; rw [List.mem_singleton.1 hr]; exact ⟨by decide, by decide⟩) (by decide)
  have h0 : putS (List.map (·.e) [(⟨e0, none, 0, none, 0⟩ : ER)]) = [2, 0, 3, 0, 0, 0] := put0
  rw [h0] at hp
  have hb := fun (A : Option Addr) c g G hx hy => bytesEqual [2, 0, 3, 0, 0, 0] [2, 0, 3, 0, 0, 0] A (some ⟨g, 0, none⟩) c 6 G hx hy
  rw [beq_self_eq_true] at hb
  have hq := fun g G hg => parse [2, 0, 3, 0, 0, 0, 1] (some ⟨g, 0, none⟩) 7 G hg (by decide) (by decide)
  rw [parse0] at hq
  (refine fn_walk tab_ok Try.func23 rfl rfl rfl rfl ?_; (conv => whnf))
  refine new_step (evO 2 3 (.slice none 0 0) (.slice none 0 0)) rfl fun u hu => ?_
  have hE := Ext.new hu (evO 2 3 (.slice none 0 0) (.slice none 0 0))
  have hU := Heap.put_same F u (evO 2 3 (.slice none 0 0) (.slice none 0 0))
  generalize F.put u _ = F1 at hE hU ⊢
  have hrow : RowAt F1 (some ⟨u, 0, none⟩) (evsV [(⟨e0, none, 0, none, 0⟩ : ER)]) := fun j v hj => ⟨_, rfl, by
    rw [add_plain, Heap.cell_at hU, Nat.zero_add, ← Array.getElem?_toList]
    exact hj⟩
  (conv => whnf)
  refine call_of (hp u F1 hrow) ?_
  rintro v F2 hM
  obtain ⟨A, c, rfl, hc, hR⟩ := hM.own.row
  replace hE := hE.trans hM.ext
  (conv => whnf)
  refine new_step (.cells (bytesOf [2, 0, 3, 0, 0, 0]).toArray 5) rfl fun g hg => ?_
  have hX := Ext.new hg (.cells (bytesOf [2, 0, 3, 0, 0, 0]).toArray 5)
  have hG := Heap.put_same F2 g (.cells (bytesOf [2, 0, 3, 0, 0, 0]).toArray 5)
  generalize F2.put g _ = F3 at hX hG ⊢
  have hrow : RowAt F3 (some ⟨g, 0, none⟩) (bytesOf [2, 0, 3, 0, 0, 0]) := fun j v hj => ⟨_, rfl, by
    rw [add_plain, Heap.cell_at hG, Nat.zero_add, ← Array.getElem?_toList]
    exact hj⟩
  replace hE := hE.trans hX
  (conv => whnf)
  refine call_of (hb A c g F3 (hR.mono hX) hrow) ?_
  rintro v F3 ⟨rfl, rfl⟩
  (conv => whnf)
  refine new_step (.cells (bytesOf [2, 0, 3, 0, 0, 0, 1]).toArray 5) rfl fun w hw => ?_
  have hX := Ext.new hw (.cells (bytesOf [2, 0, 3, 0, 0, 0, 1]).toArray 5)
  have hG := Heap.put_same F3 w (.cells (bytesOf [2, 0, 3, 0, 0, 0, 1]).toArray 5)
  generalize F3.put w _ = F4 at hX hG ⊢
  have hrow : RowAt F4 (some ⟨w, 0, none⟩) (bytesOf [2, 0, 3, 0, 0, 0, 1]) := fun j v hj => ⟨_, rfl, by
    rw [add_plain, Heap.cell_at hG, Nat.zero_add, ← Array.getElem?_toList]
    exact hj⟩
  replace hE := hE.trans hX
  (conv => whnf)
  refine call_of (hq w F4 hrow) ?_
  rintro v F5 ⟨⟨rs, A', c', hl, rfl, _, _⟩, hE5⟩
  have hl1 : rs.length = 1 := by have := congrArg List.length hl; rwa [List.length_map] at this
  rw [hl1]
  (conv => whnf)
  exact ⟨rfl, hE.trans hE5⟩
end Go.Proofs.Ytkahpaipciooiad.Al

/- Buckets: bucket.Same and the laws' same, over what is known of memory; pairs as arguments. -/
import Derived.Test.YtkahpaipciooiadBktG
namespace Go.Proofs.Ytkahpaipciooiad.Al
open Go Go.Al Go.Proofs Go.RowKit
set_option maxHeartbeats 8000000
set_option maxRecDepth 100000
set_option linter.unusedVariables false
set_option linter.unusedSimpArgs false
theorem same1 (r s : PR) (F : Heap) (hr : PrOk F r) (hs : PrOk F s) : FnK Try.prog 47 #[.agg (prA r), .agg (prA s)] F (fun v F' => v = .bool (pd r == pd s) ∧ Ext F F') := by
  obtain ⟨k, A1, c1, w, B1, cc1⟩ := r
  obtain ⟨k', A2, c2, w', B2, cc2⟩ := s
  obtain ⟨a1, a2, _⟩ := hr
  obtain ⟨b1, b2, _⟩ := hs
  dsimp only at a1 a2 b1 b2
  have hpd := pd_beq k k' w w'
  change (pd ⟨k, A1, c1, w, B1, cc1⟩ == pd ⟨k', A2, c2, w', B2, cc2⟩) = _ at hpd
  generalize (pd ⟨k, A1, c1, w, B1, cc1⟩ == pd ⟨k', A2, c2, w', B2, cc2⟩) = z at hpd
  have e1 := fun G g g' => bytesEqual k k' A1 A2 c1 c2 G g g'
  have e2 := fun G g g' => bytesEqual w w' B1 B2 cc1 cc2 G g g'
  generalize (k == k') = z1 at hpd e1
  generalize (w == w') = z2 at hpd e2
  (refine fn_walk tab_ok Try.func47 rfl rfl rfl rfl ?_; (conv => whnf))
  refine new_step (prO (.slice A1 k.length c1) (.slice B1 w.length cc1)) rfl fun b h0_b => ?_
  have hE_b := Ext.new h0_b (prO (.slice A1 k.length c1) (.slice B1 w.length cc1))
  have hB_b := Heap.put_same F b (prO (.slice A1 k.length c1) (.slice B1 w.length cc1))
  generalize F.put b _ = F1 at hE_b hB_b ⊢
  ((conv => whnf); repeat (first | (apply load_at; (conv => lhs; whnf); (with_reducible assumption); rfl; (conv => whnf)) | (apply loads_at; (conv => lhs; whnf); (with_reducible assumption); rfl; (conv => whnf)) | (refine ⟨⟨by omega, by omega⟩, ?_⟩; (conv => whnf))))
  refine new_step (prO (.slice A2 k'.length c2) (.slice B2 w'.length cc2)) rfl fun d h0_d => ?_
  have hE_d := Ext.new h0_d (prO (.slice A2 k'.length c2) (.slice B2 w'.length cc2))
  have hB_d := Heap.put_same F1 d (prO (.slice A2 k'.length c2) (.slice B2 w'.length cc2))
  generalize F1.put d _ = F2 at hE_d hB_d ⊢
  have hB1 := hE_d _ _ hB_b
  have hE := hE_b.trans hE_d
  ((conv => whnf); repeat (first | (apply load_at; (conv => lhs; whnf); (with_reducible assumption); rfl; (conv => whnf)) | (apply loads_at; (conv => lhs; whnf); (with_reducible assumption); rfl; (conv => whnf)) | (refine ⟨⟨by omega, by omega⟩, ?_⟩; (conv => whnf))))
  refine call_of (e1 F2 (a1.mono hE) (b1.mono hE)) ?_
  rintro v F2 ⟨rfl, rfl⟩
  cases z1 with
  | false =>
    rw [Bool.false_and] at hpd
    ((conv => whnf); repeat (first | (apply load_at; (conv => lhs; whnf); (with_reducible assumption); rfl; (conv => whnf)) | (apply loads_at; (conv => lhs; whnf); (with_reducible assumption); rfl; (conv => whnf)) | (refine ⟨⟨by omega, by omega⟩, ?_⟩; (conv => whnf))))
    exact ⟨congrArg Value.bool hpd.symm, hE⟩
  | true =>
    rw [Bool.true_and] at hpd
    ((conv => whnf); repeat (first | (apply load_at; (conv => lhs; whnf); (with_reducible assumption); rfl; (conv => whnf)) | (apply loads_at; (conv => lhs; whnf); (with_reducible assumption); rfl; (conv => whnf)) | (refine ⟨⟨by omega, by omega⟩, ?_⟩; (conv => whnf))))
    refine call_of (e2 F2 (a2.mono hE) (b2.mono hE)) ?_
    rintro v F2 ⟨rfl, rfl⟩
    ((conv => whnf); repeat (first | (apply load_at; (conv => lhs; whnf); (with_reducible assumption); rfl; (conv => whnf)) | (apply loads_at; (conv => lhs; whnf); (with_reducible assumption); rfl; (conv => whnf)) | (refine ⟨⟨by omega, by omega⟩, ?_⟩; (conv => whnf))))
    exact ⟨congrArg Value.bool hpd.symm, hE⟩
def sameB (x y : BD) : Bool := (x.d == y.d) && ((x.nx == y.nx) && (x.ps == y.ps))
theorem sameB_iff (x y : BD) : sameB x y = true ↔ x = y := by
  obtain ⟨a, b, c⟩ := x
  obtain ⟨a', b', c'⟩ := y
  unfold sameB
  simp
theorem bsame (d nx d' nx' : Int) (rs ss : List PR) (A B : Option Addr) (c c' : Nat) (F : Heap) (hr : RowAt F A (prsV rs)) (hs : RowAt F B (prsV ss)) (hor : ∀ r ∈ rs, PrOk F r) (hos : ∀ r ∈ ss, PrOk F r) (hl : rs.length ≤ 100000) :
    FnK Try.prog 22 #[.agg (bkC d nx (.slice A rs.length c)), .agg (bkC d' nx' (.slice B ss.length c'))] F (fun v F' => v = .bool (sameB ⟨d, nx, rs.map pd⟩ ⟨d', nx', ss.map pd⟩) ∧ Ext F F') := by
  have hsb : sameB ⟨d, nx, rs.map pd⟩ ⟨d', nx', ss.map pd⟩ = ((d == d') && ((nx == nx') && (rs.map pd == ss.map pd))) := rfl
  have he := fun G g1 g2 g3 g4 => equalP 47 rs ss A B c c' G g1 g2 g3 g4 hl (fun r s G h1 h2 => same1 r s G h1 h2)
  generalize (rs.map pd == ss.map pd) = z3 at hsb he
  generalize sameB ⟨d, nx, rs.map pd⟩ ⟨d', nx', ss.map pd⟩ = z at hsb ⊢
  (refine fn_walk tab_ok Try.func22 rfl rfl rfl rfl ?_; (conv => whnf))
  refine new_step (bkO d nx (.slice A rs.length c)) rfl fun b h0_b => ?_
  have hE_b := Ext.new h0_b (bkO d nx (.slice A rs.length c))
  have hB_b := Heap.put_same F b (bkO d nx (.slice A rs.length c))
  generalize F.put b _ = F1 at hE_b hB_b ⊢
  ((conv => whnf); repeat (first | (apply load_at; (conv => lhs; whnf); (with_reducible assumption); rfl; (conv => whnf)) | (apply loads_at; (conv => lhs; whnf); (with_reducible assumption); rfl; (conv => whnf)) | (refine ⟨⟨by omega, by omega⟩, ?_⟩; (conv => whnf))))
  refine new_step (bkO d' nx' (.slice B ss.length c')) rfl fun g h0_g => ?_
  have hE_g := Ext.new h0_g (bkO d' nx' (.slice B ss.length c'))
  have hB_g := Heap.put_same F1 g (bkO d' nx' (.slice B ss.length c'))
  generalize F1.put g _ = F2 at hE_g hB_g ⊢
  have hB1 := hE_g _ _ hB_b
  have hE := hE_b.trans hE_g
  ((conv => whnf); repeat (first | (apply load_at; (conv => lhs; whnf); (with_reducible assumption); rfl; (conv => whnf)) | (apply loads_at; (conv => lhs; whnf); (with_reducible assumption); rfl; (conv => whnf)) | (refine ⟨⟨by omega, by omega⟩, ?_⟩; (conv => whnf))))
  refine cond_split (fun h => ?_) (fun h => ?_)
  case refine_2 =>
    have h : (d == d') = false := h
    rw [h, Bool.false_and] at hsb
    ((conv => whnf); repeat (first | (apply load_at; (conv => lhs; whnf); (with_reducible assumption); rfl; (conv => whnf)) | (apply loads_at; (conv => lhs; whnf); (with_reducible assumption); rfl; (conv => whnf)) | (refine ⟨⟨by omega, by omega⟩, ?_⟩; (conv => whnf))))
    exact ⟨congrArg Value.bool hsb.symm, hE⟩
  have h : (d == d') = true := h
  rw [h, Bool.true_and] at hsb
  ((conv => whnf); repeat (first | (apply load_at; (conv => lhs; whnf); (with_reducible assumption); rfl; (conv => whnf)) | (apply loads_at; (conv => lhs; whnf); (with_reducible assumption); rfl; (conv => whnf)) | (refine ⟨⟨by omega, by omega⟩, ?_⟩; (conv => whnf))))
  refine cond_split (fun h => ?_) (fun h => ?_)
  case refine_2 =>
    have h : (nx == nx') = false := h
    rw [h, Bool.false_and] at hsb
    ((conv => whnf); repeat (first | (apply load_at; (conv => lhs; whnf); (with_reducible assumption); rfl; (conv => whnf)) | (apply loads_at; (conv => lhs; whnf); (with_reducible assumption); rfl; (conv => whnf)) | (refine ⟨⟨by omega, by omega⟩, ?_⟩; (conv => whnf))))
    exact ⟨congrArg Value.bool hsb.symm, hE⟩
  have h : (nx == nx') = true := h
  rw [h, Bool.true_and] at hsb
  ((conv => whnf); repeat (first | (apply load_at; (conv => lhs; whnf); (with_reducible assumption); rfl; (conv => whnf)) | (apply loads_at; (conv => lhs; whnf); (with_reducible assumption); rfl; (conv => whnf)) | (refine ⟨⟨by omega, by omega⟩, ?_⟩; (conv => whnf))))
  refine call_of (he F2 (hr.mono hE) (hs.mono hE) (fun r h => (hor r h).mono hE) (fun r h => (hos r h).mono hE)) ?_
  rintro v F3 ⟨rfl, hE3⟩
  ((conv => whnf); repeat (first | (apply load_at; (conv => lhs; whnf); (with_reducible assumption); rfl; (conv => whnf)) | (apply loads_at; (conv => lhs; whnf); (with_reducible assumption); rfl; (conv => whnf)) | (refine ⟨⟨by omega, by omega⟩, ?_⟩; (conv => whnf))))
  exact ⟨congrArg Value.bool hsb.symm, hE.trans hE3⟩
theorem lsame (d nx d' nx' : Int) (rs ss : List PR) (A B : Option Addr) (c c' : Nat) (F : Heap) (hr : RowAt F A (prsV rs)) (hs : RowAt F B (prsV ss)) (hor : ∀ r ∈ rs, PrOk F r) (hos : ∀ r ∈ ss, PrOk F r) (hl : rs.length ≤ 100000) :
    FnK Try.prog 12 #[.agg (bkC d nx (.slice A rs.length c)), .agg (bkC d' nx' (.slice B ss.length c'))] F (fun v F' => v = .bool (sameB ⟨d, nx, rs.map pd⟩ ⟨d', nx', ss.map pd⟩) ∧ Ext F F') := by
  have hsb : sameB ⟨d, nx, rs.map pd⟩ ⟨d', nx', ss.map pd⟩ = ((d == d') && ((nx == nx') && (rs.map pd == ss.map pd))) := rfl
  have he := fun G g1 g2 g3 g4 => plainPairs rs ss A B c c' G g1 g2 g3 g4 hl
  generalize (rs.map pd == ss.map pd) = z3 at hsb he
  generalize sameB ⟨d, nx, rs.map pd⟩ ⟨d', nx', ss.map pd⟩ = z at hsb ⊢
  (refine fn_walk tab_ok Try.func12 rfl rfl rfl rfl ?_; (conv => whnf))
  refine new_step (bkO d nx (.slice A rs.length c)) rfl fun b h0_b => ?_
  have hE_b := Ext.new h0_b (bkO d nx (.slice A rs.length c))
  have hB_b := Heap.put_same F b (bkO d nx (.slice A rs.length c))
  generalize F.put b _ = F1 at hE_b hB_b ⊢
  ((conv => whnf); repeat (first | (apply load_at; (conv => lhs; whnf); (with_reducible assumption); rfl; (conv => whnf)) | (apply loads_at; (conv => lhs; whnf); (with_reducible assumption); rfl; (conv => whnf)) | (refine ⟨⟨by omega, by omega⟩, ?_⟩; (conv => whnf))))
  refine new_step (bkO d' nx' (.slice B ss.length c')) rfl fun g h0_g => ?_
  have hE_g := Ext.new h0_g (bkO d' nx' (.slice B ss.length c'))
  have hB_g := Heap.put_same F1 g (bkO d' nx' (.slice B ss.length c'))
  generalize F1.put g _ = F2 at hE_g hB_g ⊢
  have hB1 := hE_g _ _ hB_b
  have hE := hE_b.trans hE_g
  ((conv => whnf); repeat (first | (apply load_at; (conv => lhs; whnf); (with_reducible assumption); rfl; (conv => whnf)) | (apply loads_at; (conv => lhs; whnf); (with_reducible assumption); rfl; (conv => whnf)) | (refine ⟨⟨by omega, by omega⟩, ?_⟩; (conv => whnf))))
  refine cond_split (fun h => ?_) (fun h => ?_)
  case refine_2 =>
    have h : (d == d') = false := h
    rw [h, Bool.false_and] at hsb
    ((conv => whnf); repeat (first | (apply load_at; (conv => lhs; whnf); (with_reducible assumption); rfl; (conv => whnf)) | (apply loads_at; (conv => lhs; whnf); (with_reducible assumption); rfl; (conv => whnf)) | (refine ⟨⟨by omega, by omega⟩, ?_⟩; (conv => whnf))))
    exact ⟨congrArg Value.bool hsb.symm, hE⟩
  have h : (d == d') = true := h
  rw [h, Bool.true_and] at hsb
  ((conv => whnf); repeat (first | (apply load_at; (conv => lhs; whnf); (with_reducible assumption); rfl; (conv => whnf)) | (apply loads_at; (conv => lhs; whnf); (with_reducible assumption); rfl; (conv => whnf)) | (refine ⟨⟨by omega, by omega⟩, ?_⟩; (conv => whnf))))
  refine cond_split (fun h => ?_) (fun h => ?_)
  case refine_2 =>
    have h : (nx == nx') = false := h
    rw [h, Bool.false_and] at hsb
    ((conv => whnf); repeat (first | (apply load_at; (conv => lhs; whnf); (with_reducible assumption); rfl; (conv => whnf)) | (apply loads_at; (conv => lhs; whnf); (with_reducible assumption); rfl; (conv => whnf)) | (refine ⟨⟨by omega, by omega⟩, ?_⟩; (conv => whnf))))
    exact ⟨congrArg Value.bool hsb.symm, hE⟩
  have h : (nx == nx') = true := h
  rw [h, Bool.true_and] at hsb
  ((conv => whnf); repeat (first | (apply load_at; (conv => lhs; whnf); (with_reducible assumption); rfl; (conv => whnf)) | (apply loads_at; (conv => lhs; whnf); (with_reducible assumption); rfl; (conv => whnf)) | (refine ⟨⟨by omega, by omega⟩, ?_⟩; (conv => whnf))))
  refine call_of (he F2 (hr.mono hE) (hs.mono hE) (fun r h => (hor r h).mono hE) (fun r h => (hos r h).mono hE)) ?_
  rintro v F3 ⟨rfl, hE3⟩
  ((conv => whnf); repeat (first | (apply load_at; (conv => lhs; whnf); (with_reducible assumption); rfl; (conv => whnf)) | (apply loads_at; (conv => lhs; whnf); (with_reducible assumption); rfl; (conv => whnf)) | (refine ⟨⟨by omega, by omega⟩, ?_⟩; (conv => whnf))))
  exact ⟨congrArg Value.bool hsb.symm, hE.trans hE3⟩
abbrev prWf : List Int × List Int → Prop := (fun p => (fun xs => xs.length ≤ maxLen ∧ ∀ x ∈ xs, (fun n => (Lit.int .u8 n).wf = true) x) p.1 ∧ (fun xs => xs.length ≤ maxLen ∧ ∀ x ∈ xs, (fun n => (Lit.int .u8 n).wf = true) x) p.2)
abbrev prK : Kind (List Int × List Int) := kPair 1 (kSlice 1 (kInt .u8)) (kSlice 1 (kInt .u8))
theorem pr_open {F : Heap} {x : List Int × List Int} {cs : List Value} (w : prWf x) (h : prK F x cs) : ∃ r : PR, cs = (prA r).toList ∧ PrOk F r := by
  obtain ⟨k, v⟩ := x
  obtain ⟨c3, d3, rfl, _, ⟨A, c, rfl, hc, h1⟩, B, cc, rfl, hcc, h2⟩ := h
  obtain ⟨b1, rfl⟩ := bytes_of_wf w.1.2
  obtain ⟨b2, rfl⟩ := bytes_of_wf w.2.2
  refine ⟨⟨b1, A, c, b2, B, cc⟩, ?_, elems_bytes h1, elems_bytes h2, ?_, ?_⟩
  · simp [prA, prC]
  · simpa using hc
  · simpa using hcc
theorem prs_open {F : Heap} {A : Option Addr} {xs : List (List Int × List Int)} (w : ∀ x ∈ xs, prWf x) (h : Elems F A 2 prK xs) : ∃ rs : List PR, rs.length = xs.length ∧ RowAt F A (prsV rs) ∧ ∀ r ∈ rs, PrOk F r := by
  have hex : ∀ j (hj : j < xs.length), ∃ r : PR, PrOk F r ∧ ∃ a, A = some a ∧ ∀ q u, (prA r).toList[q]? = some u → F.cell? (a.add (j * 2 + q)) = some u := by
    intro j hj
    obtain ⟨a, c, h1, h2, h3, h4⟩ := h j _ (List.getElem?_eq_getElem hj)
    obtain ⟨r, rfl, hr⟩ := pr_open (w _ (List.getElem_mem hj)) h3
    exact ⟨r, hr, a, h1, h4⟩
  have key : ∀ n, n ≤ xs.length → ∃ rs : List PR, rs.length = n ∧ ∀ j r, rs[j]? = some r → PrOk F r ∧ ∃ a, A = some a ∧ ∀ q u, (prA r).toList[q]? = some u → F.cell? (a.add (j * 2 + q)) = some u := by
    intro n
    induction n with
    | zero => intro _; exact ⟨[], rfl, fun j r h => by simp at h⟩
    | succ n ih =>
      intro hn
      obtain ⟨rs, hl, hp⟩ := ih (by omega)
      obtain ⟨r, hr⟩ := hex n (by omega)
      refine ⟨rs ++ [r], by simp [hl], fun j q hq => ?_⟩
      by_cases hj : j < rs.length
      · rw [List.getElem?_append_left hj] at hq
        exact hp j q hq
      · rw [List.getElem?_append_right (by omega)] at hq
        have hj0 : j - rs.length = 0 := by
          have := (List.getElem?_eq_some_iff.1 hq).1
          simp at this; omega
        rw [hj0] at hq
        obtain rfl : r = q := by simpa using hq
        obtain rfl : j = n := by omega
        exact hr
  obtain ⟨rs, hl, hp⟩ := key xs.length (Nat.le_refl _)
  refine ⟨rs, hl, ?_, fun r hr => ?_⟩
  · intro j v hj
    have hlt : j < (prsV rs).length := (List.getElem?_eq_some_iff.1 hj).1
    rw [prsV_len] at hlt
    have hq : j / 2 < rs.length := by omega
    have hx := List.getElem?_eq_getElem hq
    obtain ⟨_, a, h1, h2⟩ := hp _ _ hx
    refine ⟨a, h1, ?_⟩
    have hat := prsV_at _ _ _ hx
    have := h2 (j % 2) v (by rw [← hat, List.getElem?_take, if_pos (by omega), List.getElem?_drop, show j / 2 * 2 + j % 2 = j by omega]; exact hj)
    rwa [show j / 2 * 2 + j % 2 = j by omega] at this
  · obtain ⟨j, hj, rfl⟩ := List.getElem_of_mem hr
    exact (hp j _ (List.getElem?_eq_getElem hj)).1
end Go.Proofs.Ytkahpaipciooiad.Al

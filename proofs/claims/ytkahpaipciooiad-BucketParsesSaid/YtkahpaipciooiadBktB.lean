/- Buckets: bucket.fair and may, and the reference's may, over what is known of memory. -/
import Derived.Test.YtkahpaipciooiadBktA
namespace Go.Proofs.Ytkahpaipciooiad.Al
open Go Go.Al Go.Proofs Go.RowKit
set_option maxHeartbeats 8000000
set_option maxRecDepth 100000
set_option linter.unusedVariables false
set_option linter.unusedSimpArgs false
def fairB (p : PD) : Bool := decide (1 ≤ p.1.length) && (decide (p.1.length ≤ 32) && decide (p.2.length ≤ 120))
theorem fairB_iff (p : PD) : fairB p = true ↔ 1 ≤ p.1.length ∧ p.1.length ≤ 32 ∧ p.2.length ≤ 120 := by unfold fairB; simp
def MayP (b : BD) : Prop := 8 + sumP b.ps ≤ 240 ∧ 0 ≤ b.d ∧ b.d ≤ 10 ∧ inM 4 b.nx = true ∧ ∀ (i : Nat) (p : PD), b.ps[i]? = some p → fairB p = true ∧ findI p.1 b.ps = (i : Int)
noncomputable def mayB (b : BD) : Bool := @decide (MayP b) (Classical.propDecidable _)
theorem mayB_iff (b : BD) : mayB b = true ↔ MayP b := by unfold mayB; exact @decide_eq_true_iff _ (Classical.propDecidable _)
theorem in4 (n : Int) : inM 4 n = true ↔ 0 ≤ n ∧ n < 4294967296 := by unfold inM; simp
theorem fair (r : PR) (F : Heap) : FnK Try.prog 65 #[.agg (prA r)] F (fun v F' => v = .bool (fairB (pd r)) ∧ Ext F F') := by
  obtain ⟨k, A1, c1, w, B1, cc1⟩ := r
  have hf : fairB (pd ⟨k, A1, c1, w, B1, cc1⟩) = true ↔ 1 ≤ k.length ∧ k.length ≤ 32 ∧ w.length ≤ 120 := fairB_iff _
  generalize fairB (pd ⟨k, A1, c1, w, B1, cc1⟩) = q at hf
  have no : ∀ F', ¬ (q = true) → Ext F F' → (Value.bool false = .bool q ∧ Ext F F') := by
    intro F' h hE
    rw [Bool.not_eq_true] at h
    exact ⟨by rw [h], hE⟩
  (refine fn_walk tab_ok Try.func65 rfl rfl rfl rfl ?_; (conv => whnf))
  refine new_step (prO (.slice A1 k.length c1) (.slice B1 w.length cc1)) rfl fun b h0_b => ?_
  have hE_b := Ext.new h0_b (prO (.slice A1 k.length c1) (.slice B1 w.length cc1))
  have hB_b := Heap.put_same F b (prO (.slice A1 k.length c1) (.slice B1 w.length cc1))
  generalize F.put b _ = F1 at hE_b hB_b ⊢
  ((conv => whnf); repeat (first | (apply load_at; (conv => lhs; whnf); (with_reducible assumption); rfl; (conv => whnf)) | (apply loads_at; (conv => lhs; whnf); (with_reducible assumption); rfl; (conv => whnf)) | (refine ⟨⟨by omega, by omega⟩, ?_⟩; (conv => whnf))))
  refine cond_split (fun h => ?_) (fun h => ?_)
  case refine_2 =>
    have h : decide ((k.length : Int) ≥ 1) = false := h
    have h := of_decide_eq_false h
    ((conv => whnf); repeat (first | (apply load_at; (conv => lhs; whnf); (with_reducible assumption); rfl; (conv => whnf)) | (apply loads_at; (conv => lhs; whnf); (with_reducible assumption); rfl; (conv => whnf)) | (refine ⟨⟨by omega, by omega⟩, ?_⟩; (conv => whnf))))
    exact no _ (fun e => by have := hf.1 e; omega) hE_b
  have h : decide ((k.length : Int) ≥ 1) = true := h
  have h1 := of_decide_eq_true h
  ((conv => whnf); repeat (first | (apply load_at; (conv => lhs; whnf); (with_reducible assumption); rfl; (conv => whnf)) | (apply loads_at; (conv => lhs; whnf); (with_reducible assumption); rfl; (conv => whnf)) | (refine ⟨⟨by omega, by omega⟩, ?_⟩; (conv => whnf))))
  refine cond_split (fun h => ?_) (fun h => ?_)
  case refine_2 =>
    have h : decide ((k.length : Int) ≤ 32) = false := h
    have h := of_decide_eq_false h
    ((conv => whnf); repeat (first | (apply load_at; (conv => lhs; whnf); (with_reducible assumption); rfl; (conv => whnf)) | (apply loads_at; (conv => lhs; whnf); (with_reducible assumption); rfl; (conv => whnf)) | (refine ⟨⟨by omega, by omega⟩, ?_⟩; (conv => whnf))))
    exact no _ (fun e => by have := hf.1 e; omega) hE_b
  have h : decide ((k.length : Int) ≤ 32) = true := h
  have h2 := of_decide_eq_true h
  ((conv => whnf); repeat (first | (apply load_at; (conv => lhs; whnf); (with_reducible assumption); rfl; (conv => whnf)) | (apply loads_at; (conv => lhs; whnf); (with_reducible assumption); rfl; (conv => whnf)) | (refine ⟨⟨by omega, by omega⟩, ?_⟩; (conv => whnf))))
  refine ⟨congrArg Value.bool ?_, hE_b⟩
  show decide ((w.length : Int) ≤ 120) = q
  rw [Bool.eq_iff_iff, hf, decide_eq_true_eq]
  omega
theorem may (d nx : Int) (rs : List PR) (A : Option Addr) (c : Nat) (F : Heap) (hr : RowAt F A (prsV rs)) (hp : ∀ r ∈ rs, PrOk F r) (hs : Sm rs) :
    FnK Try.prog 40 #[.agg (bkC d nx (.slice A rs.length c))] F (fun v F' => v = .bool (mayB ⟨d, nx, rs.map pd⟩) ∧ Ext F F') := by
  have hm := mayB_iff ⟨d, nx, rs.map pd⟩
  unfold MayP at hm
  dsimp only at hm
  have hkp : ∀ (j : Nat) (r : PR), rs[j]? = some r → (rs.map pd)[j]? = some (pd r) := fun j r h => by rw [List.getElem?_map, h, Option.map_some]
  have hpk : ∀ (i : Nat) (p : PD), (rs.map pd)[i]? = some p → ∃ r, rs[i]? = some r ∧ pd r = p := fun i p h => by rw [List.getElem?_map] at h; exact Option.map_eq_some_iff.1 h
  generalize hps : rs.map pd = ps at hm hkp hpk ⊢
  generalize mayB ⟨d, nx, ps⟩ = q at hm ⊢
  have no : ∀ F', ¬ (q = true) → Ext F F' → (Value.bool false = .bool q ∧ Ext F F') := by
    intro F' h hE
    rw [Bool.not_eq_true] at h
    exact ⟨by rw [h], hE⟩
  have hf := fun G hg => fits d nx rs A c G hg hs
  have hrg := rightG 4 (.inr (.inr (.inl rfl))) nx
  rw [hps] at hf
  have hdz : decide (((8 + sumP ps : Nat) : Int) ≤ 240) = true ↔ 8 + sumP ps ≤ 240 := by rw [decide_eq_true_eq]; omega
  generalize decide (((8 + sumP ps : Nat) : Int) ≤ 240) = zf at hf hdz
  generalize inM 4 nx = zr at hrg hm
  obtain ⟨hl, hsm⟩ := hs
  (refine fn_walk tab_ok Try.func40 rfl rfl rfl rfl ?_; (conv => whnf))
  refine new_step (bkO d nx (.slice A rs.length c)) rfl fun b h0_b => ?_
  have hE_b := Ext.new h0_b (bkO d nx (.slice A rs.length c))
  have hB_b := Heap.put_same F b (bkO d nx (.slice A rs.length c))
  generalize F.put b _ = F1 at hE_b hB_b ⊢
  ((conv => whnf); repeat (first | (apply load_at; (conv => lhs; whnf); (with_reducible assumption); rfl; (conv => whnf)) | (apply loads_at; (conv => lhs; whnf); (with_reducible assumption); rfl; (conv => whnf)) | (refine ⟨⟨by omega, by omega⟩, ?_⟩; (conv => whnf))))
  refine call_of (hf F1 (hr.mono hE_b)) ?_
  rintro v F2 ⟨rfl, hE2⟩
  have hB2 := hE2 _ _ hB_b
  replace hE2 := hE_b.trans hE2
  cases zf with
  | false =>
    ((conv => whnf); repeat (first | (apply load_at; (conv => lhs; whnf); (with_reducible assumption); rfl; (conv => whnf)) | (apply loads_at; (conv => lhs; whnf); (with_reducible assumption); rfl; (conv => whnf)) | (refine ⟨⟨by omega, by omega⟩, ?_⟩; (conv => whnf))))
    exact no _ (fun e => by have := hdz.2 (hm.1 e).1; cases this) hE2
  | true =>
  ((conv => whnf); repeat (first | (apply load_at; (conv => lhs; whnf); (with_reducible assumption); rfl; (conv => whnf)) | (apply loads_at; (conv => lhs; whnf); (with_reducible assumption); rfl; (conv => whnf)) | (refine ⟨⟨by omega, by omega⟩, ?_⟩; (conv => whnf))))
  refine cond_split (fun h => ?_) (fun h => ?_)
  case refine_2 =>
    have h : (!decide (d < 0)) = false := h
    ((conv => whnf); repeat (first | (apply load_at; (conv => lhs; whnf); (with_reducible assumption); rfl; (conv => whnf)) | (apply loads_at; (conv => lhs; whnf); (with_reducible assumption); rfl; (conv => whnf)) | (refine ⟨⟨by omega, by omega⟩, ?_⟩; (conv => whnf))))
    exact no _ (fun e => by have := (hm.1 e).2.1; simp at h; omega) hE2
  have h1 : ¬ d < 0 := by
    have h : (!decide (d < 0)) = true := h
    simpa using h
  ((conv => whnf); repeat (first | (apply load_at; (conv => lhs; whnf); (with_reducible assumption); rfl; (conv => whnf)) | (apply loads_at; (conv => lhs; whnf); (with_reducible assumption); rfl; (conv => whnf)) | (refine ⟨⟨by omega, by omega⟩, ?_⟩; (conv => whnf))))
  refine cond_split (fun h => ?_) (fun h => ?_)
  case refine_2 =>
    have h : (!decide (d > 10)) = false := h
    ((conv => whnf); repeat (first | (apply load_at; (conv => lhs; whnf); (with_reducible assumption); rfl; (conv => whnf)) | (apply loads_at; (conv => lhs; whnf); (with_reducible assumption); rfl; (conv => whnf)) | (refine ⟨⟨by omega, by omega⟩, ?_⟩; (conv => whnf))))
    exact no _ (fun e => by have := (hm.1 e).2.2.1; simp at h; omega) hE2
  have h2 : ¬ d > 10 := by
    have h : (!decide (d > 10)) = true := h
    simpa using h
  ((conv => whnf); repeat (first | (apply load_at; (conv => lhs; whnf); (with_reducible assumption); rfl; (conv => whnf)) | (apply loads_at; (conv => lhs; whnf); (with_reducible assumption); rfl; (conv => whnf)) | (refine ⟨⟨by omega, by omega⟩, ?_⟩; (conv => whnf))))
  refine call_of (hrg F2) ?_
  rintro v F2 ⟨rfl, rfl⟩
  cases zr with
  | false =>
    ((conv => whnf); repeat (first | (apply load_at; (conv => lhs; whnf); (with_reducible assumption); rfl; (conv => whnf)) | (apply loads_at; (conv => lhs; whnf); (with_reducible assumption); rfl; (conv => whnf)) | (refine ⟨⟨by omega, by omega⟩, ?_⟩; (conv => whnf))))
    exact no _ (fun e => by cases (hm.1 e).2.2.2.1) hE2
  | true =>
  have hq : q = true ↔ ∀ (i : Nat) (p : PD), ps[i]? = some p → fairB p = true ∧ findI p.1 ps = (i : Int) := by
    rw [hm]
    exact ⟨fun h => h.2.2.2.2, fun h => ⟨hdz.1 rfl, by omega, by omega, rfl, h⟩⟩
  clear hm hdz
  ((conv => whnf); repeat (first | (apply load_at; (conv => lhs; whnf); (with_reducible assumption); rfl; (conv => whnf)) | (apply loads_at; (conv => lhs; whnf); (with_reducible assumption); rfl; (conv => whnf)) | (refine ⟨⟨by omega, by omega⟩, ?_⟩; (conv => whnf))))
  refine loop_slots [1, 25, 26, 27] (fun mm vs F' => ∃ j : Nat, j + mm = rs.length ∧ vs = [.pointer (some ⟨b, 0, none⟩), .slice A rs.length c, .int .i64 (rs.length : Int), .int .i64 (j : Int)] ∧ (∀ (i : Nat) (p : PD), i < j → ps[i]? = some p → fairB p = true ∧ findI p.1 ps = (i : Int)) ∧ F' b = some (bkO d nx (.slice A rs.length c)) ∧ Ext F F') rs.length ⟨0, by omega, rfl, fun i p h => by omega, hB2, hE2⟩ ?_
  clear hB2 hE2
  rintro mm vs F3 ρ ⟨j, hjm, rfl, hall, hB3, hE3⟩
  (conv => whnf)
  refine cond_split (fun h => ?_) (fun h => ?_)
  · have hj : j < rs.length := by have := of_decide_eq_true h; omega
    obtain ⟨ad, rfl⟩ := hr.some (by rw [prsV_len]; omega)
    have hx : rs[j]? = some rs[j] := List.getElem?_eq_getElem hj
    have hL := fun (K : Value → Prop) => pr_load (K := K) (hr.mono hE3) hj
    have hy := hkp j _ hx
    have hfr := fair rs[j]
    have hok := hp rs[j] (List.getElem_mem hj)
    generalize rs[j] = r at hL hy hfr hok
    have hfi := fun G hg hg2 hg3 => find d nx rs (some ad) c r.k r.A r.c G hg hg2 hg3 hl
    rw [hps] at hfi
    have bad : ¬ (fairB (pd r) = true ∧ findI (pd r).1 ps = (j : Int)) → ¬ (q = true) := fun h e => h (hq.1 e j _ hy)
    generalize hzz : fairB (pd r) = z at hfr bad
    have hz : (pd r).1 = r.k := rfl
    generalize hfv : findI r.k ps = fi at hfi
    obtain ⟨k, A1, c1, w, B1, cc1⟩ := r
    ((conv => whnf); repeat (first | (apply load_at; (conv => lhs; whnf); (with_reducible assumption); rfl; (conv => whnf)) | (apply loads_at; (conv => lhs; whnf); (with_reducible assumption); rfl; (conv => whnf)) | (refine ⟨⟨by omega, by omega⟩, ?_⟩; (conv => whnf))))
    refine hL _ ?_
    (conv => whnf)
    refine new_step (zeroP) rfl fun u h0_u => ?_
    have hU_u := Heap.put_same F3 u (zeroP)
    have hX_u := fun o => (ext_put_put h0_u (o := zeroP) (o' := o))
    generalize F3.put u (zeroP) = F4 at hU_u hX_u ⊢
    (conv => whnf)
    refine store_step u 0 _ (prC (.slice A1 k.length c1) (.slice B1 w.length cc1)) rfl hU_u rfl rfl (.inl (Nat.le_refl 0)) (os2 _ _ _ _ _ _) ?_
    have hB_u := Heap.put_same F4 u (prO (.slice A1 k.length c1) (.slice B1 w.length cc1))
    have hE_u := hX_u (prO (.slice A1 k.length c1) (.slice B1 w.length cc1))
    clear hU_u hX_u
    generalize F4.put u _ = F4 at hB_u hE_u ⊢
    have hB4 := hE_u _ _ hB3
    have hE4 := hE3.trans hE_u
    ((conv => whnf); repeat (first | (apply load_at; (conv => lhs; whnf); (with_reducible assumption); rfl; (conv => whnf)) | (apply loads_at; (conv => lhs; whnf); (with_reducible assumption); rfl; (conv => whnf)) | (refine ⟨⟨by omega, by omega⟩, ?_⟩; (conv => whnf))))
    refine call_of (hfr F4) ?_
    rintro v F5 ⟨rfl, hE5⟩
    have hB5 := hE5 _ _ hB4
    have hU5 := hE5 _ _ hB_u
    replace hE5 := hE4.trans hE5
    cases z with
    | false =>
      ((conv => whnf); repeat (first | (apply load_at; (conv => lhs; whnf); (with_reducible assumption); rfl; (conv => whnf)) | (apply loads_at; (conv => lhs; whnf); (with_reducible assumption); rfl; (conv => whnf)) | (refine ⟨⟨by omega, by omega⟩, ?_⟩; (conv => whnf))))
      exact no _ (bad (fun h => by cases h.1)) hE5
    | true =>
    ((conv => whnf); repeat (first | (apply load_at; (conv => lhs; whnf); (with_reducible assumption); rfl; (conv => whnf)) | (apply loads_at; (conv => lhs; whnf); (with_reducible assumption); rfl; (conv => whnf)) | (refine ⟨⟨by omega, by omega⟩, ?_⟩; (conv => whnf))))
    refine call_of (hfi F5 (hr.mono hE5) (fun r hm => (hp r hm).mono hE5) (hok.1.mono hE5)) ?_
    rintro v F6 ⟨rfl, hE6⟩
    have hB6 := hE6 _ _ hB5
    replace hE6 := hE5.trans hE6
    ((conv => whnf); repeat (first | (apply load_at; (conv => lhs; whnf); (with_reducible assumption); rfl; (conv => whnf)) | (apply loads_at; (conv => lhs; whnf); (with_reducible assumption); rfl; (conv => whnf)) | (refine ⟨⟨by omega, by omega⟩, ?_⟩; (conv => whnf))))
    refine cond_split (fun h => ?_) (fun h => ?_)
    · have h : (fi != (j : Int)) = true := h
      ((conv => whnf); repeat (first | (apply load_at; (conv => lhs; whnf); (with_reducible assumption); rfl; (conv => whnf)) | (apply loads_at; (conv => lhs; whnf); (with_reducible assumption); rfl; (conv => whnf)) | (refine ⟨⟨by omega, by omega⟩, ?_⟩; (conv => whnf))))
      refine no _ (bad fun e => ?_) hE6
      have e2 : fi = (j : Int) := hfv.symm.trans e.2
      rw [e2] at h
      simp at h
    · have h : (fi != (j : Int)) = false := h
      have h := bne_eq_false_iff_eq.1 h
      ((conv => whnf); repeat (first | (apply load_at; (conv => lhs; whnf); (with_reducible assumption); rfl; (conv => whnf)) | (apply loads_at; (conv => lhs; whnf); (with_reducible assumption); rfl; (conv => whnf)) | (refine ⟨⟨by omega, by omega⟩, ?_⟩; (conv => whnf))))
      refine ⟨mm - 1, by omega, j + 1, by omega, ?_, fun i p hi hp' => ?_, hB6, hE6⟩
      · rw [← wrap_succ (j := j) (by omega)]
        rfl
      · by_cases hij : i = j
        · subst hij
          obtain rfl := Option.some.inj (hy.symm.trans hp')
          exact ⟨hzz, hfv.trans h⟩
        · exact hall i p (by omega) hp'
  · have hj : j = rs.length := by have := of_decide_eq_false h; omega
    subst hj
    have : q = true := hq.2 fun i p h => hall i p (by obtain ⟨r, h1, _⟩ := hpk i p h; exact (List.getElem?_eq_some_iff.1 h1).1) h
    subst this
    (conv => whnf)
    exact ⟨rfl, hE3⟩
theorem rmay (d nx : Int) (rs : List PR) (A : Option Addr) (c : Nat) (F : Heap) (hr : RowAt F A (prsV rs)) (hp : ∀ r ∈ rs, PrOk F r) (hs : Sm rs) :
    FnK Try.prog 43 #[.agg (bkC d nx (.slice A rs.length c))] F (fun v F' => v = .bool (mayB ⟨d, nx, rs.map pd⟩) ∧ Ext F F') := by
  have hm := mayB_iff ⟨d, nx, rs.map pd⟩
  unfold MayP at hm
  dsimp only at hm
  rw [in4] at hm
  have hkp : ∀ (j : Nat) (r : PR), rs[j]? = some r → (rs.map pd)[j]? = some (pd r) := fun j r h => by rw [List.getElem?_map, h, Option.map_some]
  have hpk : ∀ (i : Nat) (p : PD), (rs.map pd)[i]? = some p → ∃ r, rs[i]? = some r ∧ pd r = p := fun i p h => by rw [List.getElem?_map] at h; exact Option.map_eq_some_iff.1 h
  have hle := Sm.le hs
  generalize hps : rs.map pd = ps at hm hkp hpk hle ⊢
  generalize mayB ⟨d, nx, ps⟩ = q at hm ⊢
  have no : ∀ F', ¬ (q = true) → Ext F F' → (Value.bool false = .bool q ∧ Ext F F') := by
    intro F' h hE
    rw [Bool.not_eq_true] at h
    exact ⟨by rw [h], hE⟩
  have hf := fun G hg => rsize d nx rs A c G hg hs
  rw [hps] at hf
  generalize hsp : 8 + sumP ps = sp at hf hm
  obtain ⟨hl, hsm⟩ := hs
  (refine fn_walk tab_ok Try.func43 rfl rfl rfl rfl ?_; (conv => whnf))
  refine new_step (bkO d nx (.slice A rs.length c)) rfl fun b h0_b => ?_
  have hE_b := Ext.new h0_b (bkO d nx (.slice A rs.length c))
  have hB_b := Heap.put_same F b (bkO d nx (.slice A rs.length c))
  generalize F.put b _ = F1 at hE_b hB_b ⊢
  ((conv => whnf); repeat (first | (apply load_at; (conv => lhs; whnf); (with_reducible assumption); rfl; (conv => whnf)) | (apply loads_at; (conv => lhs; whnf); (with_reducible assumption); rfl; (conv => whnf)) | (refine ⟨⟨by omega, by omega⟩, ?_⟩; (conv => whnf))))
  refine call_of (hf F1 (hr.mono hE_b)) ?_
  rintro v F2 ⟨rfl, hE2⟩
  have hB2 := hE2 _ _ hB_b
  replace hE2 := hE_b.trans hE2
  ((conv => whnf); repeat (first | (apply load_at; (conv => lhs; whnf); (with_reducible assumption); rfl; (conv => whnf)) | (apply loads_at; (conv => lhs; whnf); (with_reducible assumption); rfl; (conv => whnf)) | (refine ⟨⟨by omega, by omega⟩, ?_⟩; (conv => whnf))))
  refine cond_split (fun h => ?_) (fun h => ?_)
  case refine_2 =>
    have h : (!decide ((sp : Int) > 240)) = false := h
    ((conv => whnf); repeat (first | (apply load_at; (conv => lhs; whnf); (with_reducible assumption); rfl; (conv => whnf)) | (apply loads_at; (conv => lhs; whnf); (with_reducible assumption); rfl; (conv => whnf)) | (refine ⟨⟨by omega, by omega⟩, ?_⟩; (conv => whnf))))
    exact no _ (fun e => by have := (hm.1 e).1; simp at h; omega) hE2
  have h0 : ¬ (sp : Int) > 240 := by
    have h : (!decide ((sp : Int) > 240)) = true := h
    simpa using h
  ((conv => whnf); repeat (first | (apply load_at; (conv => lhs; whnf); (with_reducible assumption); rfl; (conv => whnf)) | (apply loads_at; (conv => lhs; whnf); (with_reducible assumption); rfl; (conv => whnf)) | (refine ⟨⟨by omega, by omega⟩, ?_⟩; (conv => whnf))))
  refine cond_split (fun h => ?_) (fun h => ?_)
  case refine_2 =>
    have h : (!decide (d < 0)) = false := h
    ((conv => whnf); repeat (first | (apply load_at; (conv => lhs; whnf); (with_reducible assumption); rfl; (conv => whnf)) | (apply loads_at; (conv => lhs; whnf); (with_reducible assumption); rfl; (conv => whnf)) | (refine ⟨⟨by omega, by omega⟩, ?_⟩; (conv => whnf))))
    exact no _ (fun e => by have := (hm.1 e).2.1; simp at h; omega) hE2
  have h1 : ¬ d < 0 := by
    have h : (!decide (d < 0)) = true := h
    simpa using h
  ((conv => whnf); repeat (first | (apply load_at; (conv => lhs; whnf); (with_reducible assumption); rfl; (conv => whnf)) | (apply loads_at; (conv => lhs; whnf); (with_reducible assumption); rfl; (conv => whnf)) | (refine ⟨⟨by omega, by omega⟩, ?_⟩; (conv => whnf))))
  refine cond_split (fun h => ?_) (fun h => ?_)
  case refine_2 =>
    have h : (!decide (d > 10)) = false := h
    ((conv => whnf); repeat (first | (apply load_at; (conv => lhs; whnf); (with_reducible assumption); rfl; (conv => whnf)) | (apply loads_at; (conv => lhs; whnf); (with_reducible assumption); rfl; (conv => whnf)) | (refine ⟨⟨by omega, by omega⟩, ?_⟩; (conv => whnf))))
    exact no _ (fun e => by have := (hm.1 e).2.2.1; simp at h; omega) hE2
  have h2 : ¬ d > 10 := by
    have h : (!decide (d > 10)) = true := h
    simpa using h
  ((conv => whnf); repeat (first | (apply load_at; (conv => lhs; whnf); (with_reducible assumption); rfl; (conv => whnf)) | (apply loads_at; (conv => lhs; whnf); (with_reducible assumption); rfl; (conv => whnf)) | (refine ⟨⟨by omega, by omega⟩, ?_⟩; (conv => whnf))))
  refine cond_split (fun h => ?_) (fun h => ?_)
  case refine_2 =>
    have h : (!decide (nx < 0)) = false := h
    ((conv => whnf); repeat (first | (apply load_at; (conv => lhs; whnf); (with_reducible assumption); rfl; (conv => whnf)) | (apply loads_at; (conv => lhs; whnf); (with_reducible assumption); rfl; (conv => whnf)) | (refine ⟨⟨by omega, by omega⟩, ?_⟩; (conv => whnf))))
    exact no _ (fun e => by have := (hm.1 e).2.2.2.1; simp at h; omega) hE2
  have h3 : ¬ nx < 0 := by
    have h : (!decide (nx < 0)) = true := h
    simpa using h
  ((conv => whnf); repeat (first | (apply load_at; (conv => lhs; whnf); (with_reducible assumption); rfl; (conv => whnf)) | (apply loads_at; (conv => lhs; whnf); (with_reducible assumption); rfl; (conv => whnf)) | (refine ⟨⟨by omega, by omega⟩, ?_⟩; (conv => whnf))))
  refine cond_split (fun h => ?_) (fun h => ?_)
  · have h : decide (nx ≥ 4294967296) = true := h
    have h := of_decide_eq_true h
    ((conv => whnf); repeat (first | (apply load_at; (conv => lhs; whnf); (with_reducible assumption); rfl; (conv => whnf)) | (apply loads_at; (conv => lhs; whnf); (with_reducible assumption); rfl; (conv => whnf)) | (refine ⟨⟨by omega, by omega⟩, ?_⟩; (conv => whnf))))
    exact no _ (fun e => by have := (hm.1 e).2.2.2.1; omega) hE2
  have h4 : decide (nx ≥ 4294967296) = false := h
  have h4 := of_decide_eq_false h4
  have hq : q = true ↔ ∀ (i : Nat) (p : PD), ps[i]? = some p → fairB p = true ∧ findI p.1 ps = (i : Int) := by
    rw [hm]
    exact ⟨fun h => h.2.2.2.2, fun h => ⟨by omega, by omega, by omega, ⟨by omega, by omega⟩, h⟩⟩
  clear hm
  ((conv => whnf); repeat (first | (apply load_at; (conv => lhs; whnf); (with_reducible assumption); rfl; (conv => whnf)) | (apply loads_at; (conv => lhs; whnf); (with_reducible assumption); rfl; (conv => whnf)) | (refine ⟨⟨by omega, by omega⟩, ?_⟩; (conv => whnf))))
  refine loop_slots [1, 3] (fun mm vs F' => ∃ j : Nat, j + mm = rs.length ∧ vs = [.pointer (some ⟨b, 0, none⟩), .int .i64 (j : Int)] ∧ (∀ (i : Nat) (p : PD), i < j → ps[i]? = some p → fairB p = true ∧ findI p.1 ps = (i : Int)) ∧ F' b = some (bkO d nx (.slice A rs.length c)) ∧ Ext F F') rs.length ⟨0, by omega, rfl, fun i p h => by omega, hB2, hE2⟩ ?_
  clear hB2 hE2
  rintro mm vs F3 ρ ⟨j, hjm, rfl, hall, hB3, hE3⟩
  ((conv => whnf); repeat (first | (apply load_at; (conv => lhs; whnf); (with_reducible assumption); rfl; (conv => whnf)) | (apply loads_at; (conv => lhs; whnf); (with_reducible assumption); rfl; (conv => whnf)) | (refine ⟨⟨by omega, by omega⟩, ?_⟩; (conv => whnf))))
  refine cond_split (fun h => ?_) (fun h => ?_)
  · have hj : j < rs.length := by have := of_decide_eq_true h; omega
    obtain ⟨ad, rfl⟩ := hr.some (by rw [prsV_len]; omega)
    have hx : rs[j]? = some rs[j] := List.getElem?_eq_getElem hj
    have hL := fun (K : Value → Prop) => pr_load (K := K) (hr.mono hE3) hj
    have hy := hkp j _ hx
    have hok := hp rs[j] (List.getElem_mem hj)
    generalize rs[j] = r at hL hy hok
    have hfi := fun G hg hg2 hg3 => rfind d nx rs (some ad) c r.k r.A r.c G hg hg2 hg3 hl
    rw [hps] at hfi
    have bad : ¬ (fairB (pd r) = true ∧ findI (pd r).1 ps = (j : Int)) → ¬ (q = true) := fun h e => h (hq.1 e j _ hy)
    have hzz := fairB_iff (pd r)
    generalize hfv : findI r.k ps = fi at hfi
    obtain ⟨k, A1, c1, w, B1, cc1⟩ := r
    change _ ↔ 1 ≤ k.length ∧ k.length ≤ 32 ∧ w.length ≤ 120 at hzz
    ((conv => whnf); repeat (first | (apply load_at; (conv => lhs; whnf); (with_reducible assumption); rfl; (conv => whnf)) | (apply loads_at; (conv => lhs; whnf); (with_reducible assumption); rfl; (conv => whnf)) | (refine ⟨⟨by omega, by omega⟩, ?_⟩; (conv => whnf))))
    refine hL _ ?_
    (conv => whnf)
    refine new_step (zeroP) rfl fun u h0_u => ?_
    have hU_u := Heap.put_same F3 u (zeroP)
    have hX_u := fun o => (ext_put_put h0_u (o := zeroP) (o' := o))
    generalize F3.put u (zeroP) = F4 at hU_u hX_u ⊢
    (conv => whnf)
    refine store_step u 0 _ (prC (.slice A1 k.length c1) (.slice B1 w.length cc1)) rfl hU_u rfl rfl (.inl (Nat.le_refl 0)) (os2 _ _ _ _ _ _) ?_
    have hB_u := Heap.put_same F4 u (prO (.slice A1 k.length c1) (.slice B1 w.length cc1))
    have hE_u := hX_u (prO (.slice A1 k.length c1) (.slice B1 w.length cc1))
    clear hU_u hX_u
    generalize F4.put u _ = F4 at hB_u hE_u ⊢
    have hB4 := hE_u _ _ hB3
    have hE4 := hE3.trans hE_u
    ((conv => whnf); repeat (first | (apply load_at; (conv => lhs; whnf); (with_reducible assumption); rfl; (conv => whnf)) | (apply loads_at; (conv => lhs; whnf); (with_reducible assumption); rfl; (conv => whnf)) | (refine ⟨⟨by omega, by omega⟩, ?_⟩; (conv => whnf))))
    refine cond_split (fun h => ?_) (fun h => ?_)
    case refine_2 =>
      have h : (!decide ((k.length : Int) < 1)) = false := h
      ((conv => whnf); repeat (first | (apply load_at; (conv => lhs; whnf); (with_reducible assumption); rfl; (conv => whnf)) | (apply loads_at; (conv => lhs; whnf); (with_reducible assumption); rfl; (conv => whnf)) | (refine ⟨⟨by omega, by omega⟩, ?_⟩; (conv => whnf))))
      exact no _ (bad (fun e => by have := hzz.1 e.1; simp at h; omega)) hE4
    have g1 : ¬ (k.length : Int) < 1 := by
      have h : (!decide ((k.length : Int) < 1)) = true := h
      simpa using h
    ((conv => whnf); repeat (first | (apply load_at; (conv => lhs; whnf); (with_reducible assumption); rfl; (conv => whnf)) | (apply loads_at; (conv => lhs; whnf); (with_reducible assumption); rfl; (conv => whnf)) | (refine ⟨⟨by omega, by omega⟩, ?_⟩; (conv => whnf))))
    refine cond_split (fun h => ?_) (fun h => ?_)
    case refine_2 =>
      have h : (!decide ((k.length : Int) > 32)) = false := h
      ((conv => whnf); repeat (first | (apply load_at; (conv => lhs; whnf); (with_reducible assumption); rfl; (conv => whnf)) | (apply loads_at; (conv => lhs; whnf); (with_reducible assumption); rfl; (conv => whnf)) | (refine ⟨⟨by omega, by omega⟩, ?_⟩; (conv => whnf))))
      exact no _ (bad (fun e => by have := hzz.1 e.1; simp at h; omega)) hE4
    have g2 : ¬ (k.length : Int) > 32 := by
      have h : (!decide ((k.length : Int) > 32)) = true := h
      simpa using h
    ((conv => whnf); repeat (first | (apply load_at; (conv => lhs; whnf); (with_reducible assumption); rfl; (conv => whnf)) | (apply loads_at; (conv => lhs; whnf); (with_reducible assumption); rfl; (conv => whnf)) | (refine ⟨⟨by omega, by omega⟩, ?_⟩; (conv => whnf))))
    refine cond_split (fun h => ?_) (fun h => ?_)
    case refine_2 =>
      have h : (!decide ((w.length : Int) > 120)) = false := h
      ((conv => whnf); repeat (first | (apply load_at; (conv => lhs; whnf); (with_reducible assumption); rfl; (conv => whnf)) | (apply loads_at; (conv => lhs; whnf); (with_reducible assumption); rfl; (conv => whnf)) | (refine ⟨⟨by omega, by omega⟩, ?_⟩; (conv => whnf))))
      exact no _ (bad (fun e => by have := hzz.1 e.1; simp at h; omega)) hE4
    have g3 : ¬ (w.length : Int) > 120 := by
      have h : (!decide ((w.length : Int) > 120)) = true := h
      simpa using h
    ((conv => whnf); repeat (first | (apply load_at; (conv => lhs; whnf); (with_reducible assumption); rfl; (conv => whnf)) | (apply loads_at; (conv => lhs; whnf); (with_reducible assumption); rfl; (conv => whnf)) | (refine ⟨⟨by omega, by omega⟩, ?_⟩; (conv => whnf))))
    refine call_of (hfi F4 (hr.mono hE4) (fun r hm => (hp r hm).mono hE4) (hok.1.mono hE4)) ?_
    rintro v F6 ⟨rfl, hE6⟩
    have hB6 := hE6 _ _ hB4
    replace hE6 := hE4.trans hE6
    ((conv => whnf); repeat (first | (apply load_at; (conv => lhs; whnf); (with_reducible assumption); rfl; (conv => whnf)) | (apply loads_at; (conv => lhs; whnf); (with_reducible assumption); rfl; (conv => whnf)) | (refine ⟨⟨by omega, by omega⟩, ?_⟩; (conv => whnf))))
    refine cond_split (fun h => ?_) (fun h => ?_)
    · have h : (fi != (j : Int)) = true := h
      ((conv => whnf); repeat (first | (apply load_at; (conv => lhs; whnf); (with_reducible assumption); rfl; (conv => whnf)) | (apply loads_at; (conv => lhs; whnf); (with_reducible assumption); rfl; (conv => whnf)) | (refine ⟨⟨by omega, by omega⟩, ?_⟩; (conv => whnf))))
      refine no _ (bad fun e => ?_) hE6
      have e2 : fi = (j : Int) := hfv.symm.trans e.2
      rw [e2] at h
      simp at h
    · have h : (fi != (j : Int)) = false := h
      have h := bne_eq_false_iff_eq.1 h
      ((conv => whnf); repeat (first | (apply load_at; (conv => lhs; whnf); (with_reducible assumption); rfl; (conv => whnf)) | (apply loads_at; (conv => lhs; whnf); (with_reducible assumption); rfl; (conv => whnf)) | (refine ⟨⟨by omega, by omega⟩, ?_⟩; (conv => whnf))))
      refine ⟨mm - 1, by omega, j + 1, by omega, ?_, fun i p hi hp' => ?_, hB6, hE6⟩
      · rw [← wrap_succ (j := j) (by omega)]
        rfl
      · by_cases hij : i = j
        · subst hij
          obtain rfl := Option.some.inj (hy.symm.trans hp')
          exact ⟨hzz.2 ⟨by omega, by omega, by omega⟩, hfv.trans h⟩
        · exact hall i p (by omega) hp'
  · have hj : j = rs.length := by have := of_decide_eq_false h; omega
    subst hj
    have : q = true := hq.2 fun i p h => hall i p (by obtain ⟨r, h1, _⟩ := hpk i p h; exact (List.getElem?_eq_some_iff.1 h1).1) h
    subst this
    ((conv => whnf); repeat (first | (apply load_at; (conv => lhs; whnf); (with_reducible assumption); rfl; (conv => whnf)) | (apply loads_at; (conv => lhs; whnf); (with_reducible assumption); rfl; (conv => whnf)) | (refine ⟨⟨by omega, by omega⟩, ?_⟩; (conv => whnf))))
    exact ⟨rfl, hE3⟩
end Go.Proofs.Ytkahpaipciooiad.Al

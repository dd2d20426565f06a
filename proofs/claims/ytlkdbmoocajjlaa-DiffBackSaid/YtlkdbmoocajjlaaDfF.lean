/- exchequerref52.Right and exchequerlaw52.rising, over what is known of memory; rows of bytes. -/
import Derived.Test.YtlkdbmoocajjlaaDfE
namespace Go.Proofs.Ytlkdbmoocajjlaa.Al
open Go Go.Al Go.Proofs Go.RowKit
set_option maxHeartbeats 8000000
set_option maxRecDepth 100000
set_option linter.unusedVariables false
set_option linter.unusedSimpArgs false
/-- A row of pairs that is handed back. -/
structure RowP (F : Heap) (v : Value) (rs : List PR) : Prop where
  out : ∃ A c, v = .slice A rs.length c ∧ rs.length ≤ c ∧ RowAt F A (prsV rs)
  ok : ∀ r ∈ rs, PrG F r
theorem RowP.mono {F F' : Heap} {v : Value} {rs : List PR} (h : RowP F v rs) (hE : Ext F F') : RowP F' v rs := by
  obtain ⟨A, c, h1, h2, h3⟩ := h.out
  exact ⟨⟨A, c, h1, h2, h3.mono hE⟩, fun r hr => (h.ok r hr).mono hE⟩
def risL (l : List PD) : Bool := risB (l.map Prod.fst)
theorem map_pd_fst (rs : List PR) : (rs.map pd).map Prod.fst = rs.map PR.k := by rw [List.map_map]; rfl
theorem refRight (rs : List PR) (A : Option Addr) (c : Nat) (F : Heap) (hr : RowAt F A (prsV rs)) (hl : rs.length ≤ 100000) (ho : ∀ r ∈ rs, RowAt F r.A (bytesOf r.k)) :
    FnK Try.prog 27 #[.slice A rs.length c] F (fun v F' => v = .bool (risB (rs.map PR.k)) ∧ F' = F) := by
  obtain ⟨res, hres⟩ : ∃ b, b = risB (rs.map PR.k) := ⟨_, rfl⟩
  rw [← hres]
  (refine fn_walk tab_ok Try.func27 rfl rfl rfl rfl ?_; (conv => whnf))
  refine loop_slots [0, 3] (fun m vs F' => ∃ j : Nat, j + m = rs.length ∧ vs = [.slice A rs.length c, .int .i64 ((j + 1 : Nat) : Int)] ∧ res = risB ((rs.map PR.k).drop j) ∧ F' = F) rs.length ⟨0, by omega, rfl, hres, rfl⟩ ?_
  rintro m vs F2 ρ ⟨j, hm, rfl, hri, rfl⟩
  ((conv => whnf); repeat (first | (apply load_at; (conv => lhs; whnf); (with_reducible assumption); rfl; (conv => whnf)) | (apply load_at; (conv => lhs; rw [add_plain, add_plain]); (with_reducible assumption); rfl; (conv => whnf)) | (apply loads_at; (conv => lhs; whnf); (with_reducible assumption); rfl; (conv => whnf)) | (refine ⟨⟨by omega, by omega⟩, ?_⟩; (conv => whnf))))
  refine cond_split (fun h => ?_) (fun h => ?_)
  · have hj : j + 1 < rs.length := by have := of_decide_eq_true h; omega
    obtain ⟨ad, rfl⟩ := hr.some (by rw [prsV_len]; omega)
    have hw1 : IntKind.i64.wrap (((j + 1 : Nat) : Int) - 1) = (j : Int) := by rw [wrap_eq (by omega) (by omega)]; omega
    have hws : IntKind.i64.wrap (((j + 1 : Nat) : Int) + 1) = ((j + 1 + 1 : Nat) : Int) := wrap_succ (by omega)
    have hdr : (rs.map PR.k).drop j = rs[j].k :: rs[j + 1].k :: (rs.map PR.k).drop (j + 2) := by
      rw [List.drop_eq_getElem_cons (by rw [List.length_map]; omega), List.drop_eq_getElem_cons (by rw [List.length_map]; omega), List.getElem_map, List.getElem_map]
    have hdr2 : (rs.map PR.k).drop (j + 1) = rs[j + 1].k :: (rs.map PR.k).drop (j + 2) := by
      rw [List.drop_eq_getElem_cons (by rw [List.length_map]; omega), List.getElem_map]
    rw [hdr, risB_cons, ← hdr2] at hri
    clear hdr hdr2
    have c0 := pr_cell hr (show j < rs.length by omega) (i := 0) rfl
    have c1 := pr_cell hr hj (i := 0) rfl
    have g0 := ho _ (List.getElem_mem (show j < rs.length by omega))
    have g1 := ho _ (List.getElem_mem hj)
    rw [← hw1] at c0
    generalize rs[j] = r at hri c0 g0
    generalize rs[j + 1] = s at hri c1 g1
    obtain ⟨rk, ra, rc, rv, rb, rcc⟩ := r
    obtain ⟨sk, sa, sc, sv, sb, scc⟩ := s
    replace hri : res = (ltB rk sk && risB ((rs.map PR.k).drop (j + 1))) := hri
    have hq := str_lt rk sk
    generalize ltB rk sk = z at hri hq
    ((conv => whnf); repeat (first | (apply load_at; (conv => lhs; whnf); (with_reducible assumption); rfl; (conv => whnf)) | (apply load_at; (conv => lhs; rw [add_plain, add_plain]); (with_reducible assumption); rfl; (conv => whnf)) | (apply loads_at; (conv => lhs; whnf); (with_reducible assumption); rfl; (conv => whnf)) | (refine ⟨⟨by omega, by omega⟩, ?_⟩; (conv => whnf))))
    refine draw_cut (fun env' F' => [0, 3, 23].map env' = [.slice (some ad) rs.length c, .int .i64 ((j + 1 : Nat) : Int), .bool (!z)] ∧ F' = F2) (fun K hK => ?_) ?_
    · refine draw_tree_at tab_ok (by kernel_rfl) [] (DT.row [0, 1, 2, 3, 4, 5, 7, 8, 9, 10, 11] (.fork (DT.row [6, 12, 13] .nil) (DT.row [12, 6, 13] .nil))) (by kernel_rfl) (fun _ => none) (fun _ _ h => by cases h) ?_
      ((conv => whnf); repeat (first | (apply load_at; (conv => lhs; whnf); (with_reducible assumption); rfl; (conv => whnf)) | (apply load_at; (conv => lhs; rw [add_plain, add_plain]); (with_reducible assumption); rfl; (conv => whnf)) | (apply loads_at; (conv => lhs; whnf); (with_reducible assumption); rfl; (conv => whnf)) | (refine ⟨⟨by omega, by omega⟩, ?_⟩; (conv => whnf))))
      refine load_step c0 ?_
      ((conv => whnf); repeat (first | (apply load_at; (conv => lhs; whnf); (with_reducible assumption); rfl; (conv => whnf)) | (apply load_at; (conv => lhs; rw [add_plain, add_plain]); (with_reducible assumption); rfl; (conv => whnf)) | (apply loads_at; (conv => lhs; whnf); (with_reducible assumption); rfl; (conv => whnf)) | (refine ⟨⟨by omega, by omega⟩, ?_⟩; (conv => whnf))))
      refine load_step c1 ?_
      ((conv => whnf); repeat (first | (apply load_at; (conv => lhs; whnf); (with_reducible assumption); rfl; (conv => whnf)) | (apply load_at; (conv => lhs; rw [add_plain, add_plain]); (with_reducible assumption); rfl; (conv => whnf)) | (apply loads_at; (conv => lhs; whnf); (with_reducible assumption); rfl; (conv => whnf)) | (refine ⟨⟨by omega, by omega⟩, ?_⟩; (conv => whnf))))
      refine ⟨?_, ?_⟩
      · ((conv => whnf); repeat (first | (apply load_at; (conv => lhs; whnf); (with_reducible assumption); rfl; (conv => whnf)) | (apply load_at; (conv => lhs; rw [add_plain, add_plain]); (with_reducible assumption); rfl; (conv => whnf)) | (apply loads_at; (conv => lhs; whnf); (with_reducible assumption); rfl; (conv => whnf)) | (refine ⟨⟨by omega, by omega⟩, ?_⟩; (conv => whnf))))
        refine conv_str tab_ok rk rfl rfl rfl rfl rfl g0 ?_
        (conv => whnf)
        refine ⟨(fun _ _ h => by cases h), Ext.refl _, ?_⟩
        ((conv => whnf); repeat (first | (apply load_at; (conv => lhs; whnf); (with_reducible assumption); rfl; (conv => whnf)) | (apply load_at; (conv => lhs; rw [add_plain, add_plain]); (with_reducible assumption); rfl; (conv => whnf)) | (apply loads_at; (conv => lhs; whnf); (with_reducible assumption); rfl; (conv => whnf)) | (refine ⟨⟨by omega, by omega⟩, ?_⟩; (conv => whnf))))
        refine conv_str tab_ok sk rfl rfl rfl rfl rfl g1 ?_
        (conv => whnf)
        refine ⟨(fun _ _ h => by cases h), Ext.refl _, ?_⟩
        ((conv => whnf); repeat (first | (apply load_at; (conv => lhs; whnf); (with_reducible assumption); rfl; (conv => whnf)) | (apply load_at; (conv => lhs; rw [add_plain, add_plain]); (with_reducible assumption); rfl; (conv => whnf)) | (apply loads_at; (conv => lhs; whnf); (with_reducible assumption); rfl; (conv => whnf)) | (refine ⟨⟨by omega, by omega⟩, ?_⟩; (conv => whnf))))
        refine hK _ _ ⟨?_, rfl⟩
        rw [← hq]
        rfl
      · ((conv => whnf); repeat (first | (apply load_at; (conv => lhs; whnf); (with_reducible assumption); rfl; (conv => whnf)) | (apply load_at; (conv => lhs; rw [add_plain, add_plain]); (with_reducible assumption); rfl; (conv => whnf)) | (apply loads_at; (conv => lhs; whnf); (with_reducible assumption); rfl; (conv => whnf)) | (refine ⟨⟨by omega, by omega⟩, ?_⟩; (conv => whnf))))
        refine conv_str tab_ok sk rfl rfl rfl rfl rfl g1 ?_
        (conv => whnf)
        refine ⟨(fun _ _ h => by cases h), Ext.refl _, ?_⟩
        ((conv => whnf); repeat (first | (apply load_at; (conv => lhs; whnf); (with_reducible assumption); rfl; (conv => whnf)) | (apply load_at; (conv => lhs; rw [add_plain, add_plain]); (with_reducible assumption); rfl; (conv => whnf)) | (apply loads_at; (conv => lhs; whnf); (with_reducible assumption); rfl; (conv => whnf)) | (refine ⟨⟨by omega, by omega⟩, ?_⟩; (conv => whnf))))
        refine conv_str tab_ok rk rfl rfl rfl rfl rfl g0 ?_
        (conv => whnf)
        refine ⟨(fun _ _ h => by cases h), Ext.refl _, ?_⟩
        ((conv => whnf); repeat (first | (apply load_at; (conv => lhs; whnf); (with_reducible assumption); rfl; (conv => whnf)) | (apply load_at; (conv => lhs; rw [add_plain, add_plain]); (with_reducible assumption); rfl; (conv => whnf)) | (apply loads_at; (conv => lhs; whnf); (with_reducible assumption); rfl; (conv => whnf)) | (refine ⟨⟨by omega, by omega⟩, ?_⟩; (conv => whnf))))
        refine hK _ _ ⟨?_, rfl⟩
        rw [← hq]
        rfl
    · rintro env' F3 ⟨he, rfl⟩
      refine short [0, 3, 23] [.slice (some ad) rs.length c, .int .i64 ((j + 1 : Nat) : Int), .bool (!z)] he fun ρ => ?_
      ((conv => whnf); repeat (first | (apply load_at; (conv => lhs; whnf); (with_reducible assumption); rfl; (conv => whnf)) | (apply load_at; (conv => lhs; rw [add_plain, add_plain]); (with_reducible assumption); rfl; (conv => whnf)) | (apply loads_at; (conv => lhs; whnf); (with_reducible assumption); rfl; (conv => whnf)) | (refine ⟨⟨by omega, by omega⟩, ?_⟩; (conv => whnf))))
      refine cond_split (fun h => ?_) (fun h => ?_)
      · have e : z = false := by cases z with | false => rfl | true => exact absurd h (by decide)
        rw [e, Bool.false_and] at hri
        ((conv => whnf); repeat (first | (apply load_at; (conv => lhs; whnf); (with_reducible assumption); rfl; (conv => whnf)) | (apply load_at; (conv => lhs; rw [add_plain, add_plain]); (with_reducible assumption); rfl; (conv => whnf)) | (apply loads_at; (conv => lhs; whnf); (with_reducible assumption); rfl; (conv => whnf)) | (refine ⟨⟨by omega, by omega⟩, ?_⟩; (conv => whnf))))
        exact ⟨congrArg Value.bool hri.symm, rfl⟩
      · have e : z = true := by cases z with | true => rfl | false => exact absurd h (by decide)
        rw [e, Bool.true_and] at hri
        ((conv => whnf); repeat (first | (apply load_at; (conv => lhs; whnf); (with_reducible assumption); rfl; (conv => whnf)) | (apply load_at; (conv => lhs; rw [add_plain, add_plain]); (with_reducible assumption); rfl; (conv => whnf)) | (apply loads_at; (conv => lhs; whnf); (with_reducible assumption); rfl; (conv => whnf)) | (refine ⟨⟨by omega, by omega⟩, ?_⟩; (conv => whnf))))
        refine ⟨m - 1, by omega, j + 1, by omega, ?_, hri, rfl⟩
        rw [← hws]
        rfl
  · have hj : ¬ j + 1 < rs.length := by have := of_decide_eq_false h; omega
    have hd : ((rs.map PR.k).drop j).length ≤ 1 := by rw [List.length_drop, List.length_map]; omega
    have hri2 : res = true := by
      rw [hri]
      generalize (rs.map PR.k).drop j = l at hd
      match l, hd with
      | [], _ => rfl
      | [a], _ => rfl
      | a :: b :: l, hd => simp at hd
    ((conv => whnf); repeat (first | (apply load_at; (conv => lhs; whnf); (with_reducible assumption); rfl; (conv => whnf)) | (apply load_at; (conv => lhs; rw [add_plain, add_plain]); (with_reducible assumption); rfl; (conv => whnf)) | (apply loads_at; (conv => lhs; whnf); (with_reducible assumption); rfl; (conv => whnf)) | (refine ⟨⟨by omega, by omega⟩, ?_⟩; (conv => whnf))))
    exact ⟨congrArg Value.bool hri2.symm, rfl⟩
def risingL (l : List PD) : List PD := l.foldl putL' []
theorem putR_len (rs : List PR) (r : PR) (n : Nat) (h : n ≤ rs.length) : (putR rs r n).length ≤ rs.length + 1 := by
  unfold putR
  split
  · rw [List.length_set]; omega
  · rw [List.length_append, List.length_take, List.length_cons, List.length_drop]; omega
theorem rising (rs : List PR) (A : Option Addr) (c : Nat) (F : Heap) (hr : RowAt F A (prsV rs)) (hl : rs.length ≤ 500) (ho : ∀ r ∈ rs, PrG F r) :
    FnK Try.prog 19 #[.slice A rs.length c] F (fun v F' => ∃ rs', RowP F' v rs' ∧ rs'.map pd = risingL (rs.map pd) ∧ rs'.length ≤ rs.length ∧ Ext F F') := by
  (refine fn_walk tab_ok Try.func19 rfl rfl rfl rfl ?_; (conv => whnf))
  refine new_step (tabO (.slice none 0 0)) rfl fun t h0_t => ?_
  have hE_t := Ext.new h0_t (tabO (.slice none 0 0))
  have hB_t := Heap.put_same F t (tabO (.slice none 0 0))
  generalize F.put t _ = F1 at hE_t hB_t ⊢
  have T0 : Tab F1 F t [] := ⟨⟨none, 0, hB_t, Nat.le_refl 0, RowAt.nil _ _⟩, hE_t, h0_t, fun r hr => (List.not_mem_nil hr).elim⟩
  ((conv => whnf); repeat (first | (apply load_at; (conv => lhs; whnf); (with_reducible assumption); rfl; (conv => whnf)) | (apply load_at; (conv => lhs; rw [add_plain, add_plain]); (with_reducible assumption); rfl; (conv => whnf)) | (apply loads_at; (conv => lhs; whnf); (with_reducible assumption); rfl; (conv => whnf)) | (refine ⟨⟨by omega, by omega⟩, ?_⟩; (conv => whnf))))
  refine loop_slots [3, 8, 9, 10] (fun m vs F' => ∃ (j : Nat) (rs' : List PR) (G : Heap), j + m = rs.length ∧ vs = [.pointer (some ⟨t, 0, none⟩), .slice A rs.length c, .int .i64 (rs.length : Int), .int .i64 (j : Int)] ∧ Tab F' G t rs' ∧ Ext F G ∧ rs'.length ≤ j ∧ rs'.map pd = ((rs.take j).map pd).foldl putL' []) rs.length ⟨0, [], F, by omega, rfl, T0, Ext.refl F, Nat.le_refl 0, rfl⟩ ?_
  rintro m vs F2 ρ ⟨j, rs', G, hm, rfl, hT, hG, hlj, hpd⟩
  have hE : Ext F F2 := hG.trans hT.base
  ((conv => whnf); repeat (first | (apply load_at; (conv => lhs; whnf); (with_reducible assumption); rfl; (conv => whnf)) | (apply load_at; (conv => lhs; rw [add_plain, add_plain]); (with_reducible assumption); rfl; (conv => whnf)) | (apply loads_at; (conv => lhs; whnf); (with_reducible assumption); rfl; (conv => whnf)) | (refine ⟨⟨by omega, by omega⟩, ?_⟩; (conv => whnf))))
  refine cond_split (fun h => ?_) (fun h => ?_)
  · have hj : j < rs.length := by have := of_decide_eq_true h; omega
    obtain ⟨ad, rfl⟩ := hr.some (by rw [prsV_len]; omega)
    have hws : IntKind.i64.wrap ((j : Int) + 1) = ((j + 1 : Nat) : Int) := wrap_succ (by omega)
    have hstep : ((rs.take (j + 1)).map pd).foldl putL' [] = putL' (rs'.map pd) (pd rs[j]) := by
      rw [List.take_add_one, List.getElem?_eq_getElem hj, Option.toList_some, List.map_append, List.foldl_append, ← hpd]
      rfl
    have hL := fun (K : Value → Prop) => pr_load (K := K) (hr.mono hE) hj
    have hg := (ho _ (List.getElem_mem hj)).mono hE
    generalize rs[j] = r at hstep hL hg
    obtain ⟨rk, ra, rc, rv, rb, rcc⟩ := r
    obtain ⟨⟨g1, g2, g3, g4⟩, g5, g6⟩ := hg
    ((conv => whnf); repeat (first | (apply load_at; (conv => lhs; whnf); (with_reducible assumption); rfl; (conv => whnf)) | (apply load_at; (conv => lhs; rw [add_plain, add_plain]); (with_reducible assumption); rfl; (conv => whnf)) | (apply loads_at; (conv => lhs; whnf); (with_reducible assumption); rfl; (conv => whnf)) | (refine ⟨⟨by omega, by omega⟩, ?_⟩; (conv => whnf))))
    refine hL _ ?_
    ((conv => whnf); repeat (first | (apply load_at; (conv => lhs; whnf); (with_reducible assumption); rfl; (conv => whnf)) | (apply load_at; (conv => lhs; rw [add_plain, add_plain]); (with_reducible assumption); rfl; (conv => whnf)) | (apply loads_at; (conv => lhs; whnf); (with_reducible assumption); rfl; (conv => whnf)) | (refine ⟨⟨by omega, by omega⟩, ?_⟩; (conv => whnf))))
    refine new_step (zeroP) rfl fun u h0_u => ?_
    have hU_u := Heap.put_same F2 u (zeroP)
    have hX_u := fun o => (ext_put_put h0_u (o := zeroP) (o' := o))
    generalize F2.put u (zeroP) = F3 at hU_u hX_u ⊢
    (conv => whnf)
    refine store_step u 0 _ (prC (.slice ra rk.length rc) (.slice rb rv.length rcc)) rfl hU_u rfl rfl (.inl (Nat.le_refl 0)) (os2 _ _ _ _ _ _) ?_
    have hB_u := Heap.put_same F3 u (prO (.slice ra rk.length rc) (.slice rb rv.length rcc))
    have hE_u := hX_u (prO (.slice ra rk.length rc) (.slice rb rv.length rcc))
    clear hU_u hX_u
    generalize F3.put u _ = F3 at hB_u hE_u ⊢
    have T3 := hT.mono hE_u
    ((conv => whnf); repeat (first | (apply load_at; (conv => lhs; whnf); (with_reducible assumption); rfl; (conv => whnf)) | (apply load_at; (conv => lhs; rw [add_plain, add_plain]); (with_reducible assumption); rfl; (conv => whnf)) | (apply loads_at; (conv => lhs; whnf); (with_reducible assumption); rfl; (conv => whnf)) | (refine ⟨⟨by omega, by omega⟩, ?_⟩; (conv => whnf))))
    refine call_of (put rs' t rk ra rc rv rb rcc F3 G T3 (by omega) (g1.mono hE_u) (g2.mono hE_u) g5 g6) ?_
    rintro v F4 ⟨rfl, G', r, hk, hv, T4, hGG, _⟩
    have hpr := putR_pd r rs'
    have hpl := putR_len rs' r (lbN (rs'.map PR.k) rk) (by have := lbN_le rk (rs'.map PR.k); rw [List.length_map] at this; exact this)
    rw [hk, show pd r = (rk, rv) by unfold pd; rw [hk, hv]] at hpr
    ((conv => whnf); repeat (first | (apply load_at; (conv => lhs; whnf); (with_reducible assumption); rfl; (conv => whnf)) | (apply load_at; (conv => lhs; rw [add_plain, add_plain]); (with_reducible assumption); rfl; (conv => whnf)) | (apply loads_at; (conv => lhs; whnf); (with_reducible assumption); rfl; (conv => whnf)) | (refine ⟨⟨by omega, by omega⟩, ?_⟩; (conv => whnf))))
    refine ⟨m - 1, by omega, j + 1, _, G', by omega, ?_, T4, hG.trans hGG, by omega, hpr.trans hstep.symm⟩
    rw [← hws]
    rfl
  · have hj : j = rs.length := by have := of_decide_eq_false h; omega
    rw [hj, List.take_length] at hpd
    obtain ⟨A2, c2, hB2, hc2, hr2⟩ := hT.cell
    ((conv => whnf); repeat (first | (apply load_at; (conv => lhs; whnf); (with_reducible assumption); rfl; (conv => whnf)) | (apply load_at; (conv => lhs; rw [add_plain, add_plain]); (with_reducible assumption); rfl; (conv => whnf)) | (apply loads_at; (conv => lhs; whnf); (with_reducible assumption); rfl; (conv => whnf)) | (refine ⟨⟨by omega, by omega⟩, ?_⟩; (conv => whnf))))
    exact ⟨rs', ⟨⟨A2, c2, rfl, hc2, hr2.mono hT.base⟩, fun r hr => (hT.ok r hr).mono hT.base⟩, hpd, by omega, hE⟩
end Go.Proofs.Ytlkdbmoocajjlaa.Al

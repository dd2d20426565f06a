/- exchequerref52.Between and Apply, over what is known of memory. -/
import Derived.Test.YtlkdbmoocajjlaaDfF
namespace Go.Proofs.Ytlkdbmoocajjlaa.Al
open Go Go.Al Go.Proofs Go.RowKit
set_option maxHeartbeats 8000000
set_option maxRecDepth 100000
set_option linter.unusedVariables false
set_option linter.unusedSimpArgs false
/-- A row of bytes as an element. -/
structure BR where
  k : List UInt8
  A : Option Addr
  c : Nat
def brV (r : BR) : Value := .slice r.A r.k.length r.c
def bsV (rs : List BR) : List Value := rs.map brV
theorem bsV_len (rs : List BR) : (bsV rs).length = rs.length := by unfold bsV; rw [List.length_map]
theorem bsV_app (rs : List BR) (r : BR) : bsV (rs ++ [r]) = bsV rs ++ [brV r] := by unfold bsV; rw [List.map_append]; rfl
structure RowB (F : Heap) (v : Value) (ds : List BR) : Prop where
  out : ∃ A c, v = .slice A ds.length c ∧ ds.length ≤ c ∧ RowAt F A (bsV ds)
  ok : ∀ d ∈ ds, RowAt F d.A (bytesOf d.k)
theorem RowB.mono {F F' : Heap} {v : Value} {ds : List BR} (h : RowB F v ds) (hE : Ext F F') : RowB F' v ds := by
  obtain ⟨A, c, h1, h2, h3⟩ := h.out
  exact ⟨⟨A, c, h1, h2, h3.mono hE⟩, fun r hr => (h.ok r hr).mono hE⟩
theorem RowP.nil (F : Heap) : RowP F (.slice none 0 0) [] := ⟨⟨none, 0, rfl, Nat.le_refl 0, RowAt.nil _ _⟩, fun r hr => (List.not_mem_nil hr).elim⟩
theorem RowB.nil (F : Heap) : RowB F (.slice none 0 0) [] := ⟨⟨none, 0, rfl, Nat.le_refl 0, RowAt.nil _ _⟩, fun r hr => (List.not_mem_nil hr).elim⟩
def newP (a : List PD) (p : PD) : Bool := !(getL a p.1 == some p.2)
def goneP (b : List PD) (p : PD) : Bool := (getL b p.1).isNone
def betweenP (a b : List PD) : List PD := if (risL a && risL b) = true then b.filter (newP a) else []
def betweenD (a b : List PD) : List (List UInt8) := if (risL a && risL b) = true then (a.filter (goneP b)).map Prod.fst else []
/-- What is otherwise, handed back. -/
def Btw (F F' : Heap) (v : Value) (P : List PD) (D : List (List UInt8)) : Prop := ∃ (ps : List PR) (ds : List BR) (S T : Value), v = .tuple #[S, T] ∧ RowP F' S ps ∧ ps.map pd = P ∧ RowB F' T ds ∧ ds.map BR.k = D ∧ Ext F F'
theorem refBetween (xs ys : List PR) (A B : Option Addr) (ca cb : Nat) (F : Heap) (ha : RowAt F A (prsV xs)) (hb : RowAt F B (prsV ys)) (hla : xs.length ≤ 1000) (hlb : ys.length ≤ 1000) (hca : xs.length ≤ ca) (hcb : ys.length ≤ cb) (hoa : ∀ r ∈ xs, PrG F r) (hob : ∀ r ∈ ys, PrG F r) :
    FnK Try.prog 21 #[.slice A xs.length ca, .slice B ys.length cb] F (fun v F' => Btw F F' v (betweenP (xs.map pd) (ys.map pd)) (betweenD (xs.map pd) (ys.map pd))) := by
  have hra := refRight xs A ca F ha (by omega) (fun r hr => (hoa r hr).ok.1)
  have hrb := refRight ys B cb F hb (by omega) (fun r hr => (hob r hr).ok.1)
  have hPe : betweenP (xs.map pd) (ys.map pd) = if (risB (xs.map PR.k) && risB (ys.map PR.k)) = true then (ys.map pd).filter (newP (xs.map pd)) else [] := by unfold betweenP risL; rw [map_pd_fst, map_pd_fst]
  have hDe : betweenD (xs.map pd) (ys.map pd) = if (risB (xs.map PR.k) && risB (ys.map PR.k)) = true then ((xs.map pd).filter (goneP (ys.map pd))).map Prod.fst else [] := by unfold betweenD risL; rw [map_pd_fst, map_pd_fst]
  generalize betweenP (xs.map pd) (ys.map pd) = P at hPe ⊢
  generalize betweenD (xs.map pd) (ys.map pd) = D at hDe ⊢
  generalize risB (xs.map PR.k) = qa at hra hPe hDe
  generalize risB (ys.map PR.k) = qb at hrb hPe hDe
  have bad : (qa && qb) = false → Btw F F (.tuple #[.slice none 0 0, .slice none 0 0]) P D := fun h => by
    rw [h, if_neg (by decide)] at hPe hDe
    exact ⟨[], [], _, _, rfl, RowP.nil _, hPe.symm, RowB.nil _, hDe.symm, Ext.refl _⟩
  (refine fn_walk tab_ok Try.func21 rfl rfl rfl rfl ?_; (conv => whnf))
  refine call_of hra ?_
  rintro v F1 ⟨rfl, rfl⟩
  cases qa with
  | false =>
    ((conv => whnf); repeat (first | (apply load_at; (conv => lhs; whnf); (with_reducible assumption); rfl; (conv => whnf)) | (apply load_at; (conv => lhs; rw [add_plain, add_plain]); (with_reducible assumption); rfl; (conv => whnf)) | (apply loads_at; (conv => lhs; whnf); (with_reducible assumption); rfl; (conv => whnf)) | (refine ⟨⟨by omega, by omega⟩, ?_⟩; (conv => whnf))))
    exact bad rfl
  | true =>
  ((conv => whnf); repeat (first | (apply load_at; (conv => lhs; whnf); (with_reducible assumption); rfl; (conv => whnf)) | (apply load_at; (conv => lhs; rw [add_plain, add_plain]); (with_reducible assumption); rfl; (conv => whnf)) | (apply loads_at; (conv => lhs; whnf); (with_reducible assumption); rfl; (conv => whnf)) | (refine ⟨⟨by omega, by omega⟩, ?_⟩; (conv => whnf))))
  refine call_of hrb ?_
  rintro v F2 ⟨rfl, rfl⟩
  cases qb with
  | false =>
    ((conv => whnf); repeat (first | (apply load_at; (conv => lhs; whnf); (with_reducible assumption); rfl; (conv => whnf)) | (apply load_at; (conv => lhs; rw [add_plain, add_plain]); (with_reducible assumption); rfl; (conv => whnf)) | (apply loads_at; (conv => lhs; whnf); (with_reducible assumption); rfl; (conv => whnf)) | (refine ⟨⟨by omega, by omega⟩, ?_⟩; (conv => whnf))))
    exact bad rfl
  | true =>
  rw [if_pos (show (true && true) = true from rfl)] at hPe hDe
  clear bad hra hrb
  ((conv => whnf); repeat (first | (apply load_at; (conv => lhs; whnf); (with_reducible assumption); rfl; (conv => whnf)) | (apply load_at; (conv => lhs; rw [add_plain, add_plain]); (with_reducible assumption); rfl; (conv => whnf)) | (apply loads_at; (conv => lhs; whnf); (with_reducible assumption); rfl; (conv => whnf)) | (refine ⟨⟨by omega, by omega⟩, ?_⟩; (conv => whnf))))
  refine new_step (tabO (.slice A xs.length ca)) rfl fun t h0_t => ?_
  have hE_t := Ext.new h0_t (tabO (.slice A xs.length ca))
  have hB_t := Heap.put_same F2 t (tabO (.slice A xs.length ca))
  generalize F2.put t _ = F3 at hE_t hB_t ⊢
  ((conv => whnf); repeat (first | (apply load_at; (conv => lhs; whnf); (with_reducible assumption); rfl; (conv => whnf)) | (apply load_at; (conv => lhs; rw [add_plain, add_plain]); (with_reducible assumption); rfl; (conv => whnf)) | (apply loads_at; (conv => lhs; whnf); (with_reducible assumption); rfl; (conv => whnf)) | (refine ⟨⟨by omega, by omega⟩, ?_⟩; (conv => whnf))))
  refine new_step (tabO (.slice B ys.length cb)) rfl fun u h0_u => ?_
  have hE_u := Ext.new h0_u (tabO (.slice B ys.length cb))
  have hB_u := Heap.put_same F3 u (tabO (.slice B ys.length cb))
  generalize F3.put u _ = F4 at hE_u hB_u ⊢
  have E4 := hE_t.trans hE_u
  have Tx : Tab F4 F2 t xs := ⟨⟨A, ca, hE_u _ _ hB_t, hca, ha⟩, E4, h0_t, hoa⟩
  have Ty : Tab F4 F2 u ys := ⟨⟨B, cb, hB_u, hcb, hb⟩, E4, hE_t.none h0_u, hob⟩
  ((conv => whnf); repeat (first | (apply load_at; (conv => lhs; whnf); (with_reducible assumption); rfl; (conv => whnf)) | (apply load_at; (conv => lhs; rw [add_plain, add_plain]); (with_reducible assumption); rfl; (conv => whnf)) | (apply loads_at; (conv => lhs; whnf); (with_reducible assumption); rfl; (conv => whnf)) | (refine ⟨⟨by omega, by omega⟩, ?_⟩; (conv => whnf))))
  refine loop_slots [0, 1, 6, 7, 8, 9, 10] (fun m vs F' => ∃ (j : Nat) (acc : List PR) (S : Value), j + m = ys.length ∧ vs = [.slice A xs.length ca, .slice B ys.length cb, .pointer (some ⟨t, 0, none⟩), .pointer (some ⟨u, 0, none⟩), S, .slice none 0 0, .int .i64 (j : Int)] ∧ Mine F4 F' S 75 2 acc.length (prsV acc) ∧ acc.map pd = ((ys.take j).map pd).filter (newP (xs.map pd)) ∧ ∀ r ∈ acc, r ∈ ys) ys.length ⟨0, [], .slice none 0 0, by omega, rfl, Mine.nil F4 F4 _ _ (Ext.refl _), rfl, fun r hr => (List.not_mem_nil hr).elim⟩ ?_
  · rintro m vs F5 ρ ⟨j, acc, S, hm, rfl, hM, hacc, hmem⟩
    have E5 := E4.trans hM.ext
    obtain ⟨A1, c1, rfl, hc1, hr1⟩ := hM.own.row
    ((conv => whnf); repeat (first | (apply load_at; (conv => lhs; whnf); (with_reducible assumption); rfl; (conv => whnf)) | (apply load_at; (conv => lhs; rw [add_plain, add_plain]); (with_reducible assumption); rfl; (conv => whnf)) | (apply loads_at; (conv => lhs; whnf); (with_reducible assumption); rfl; (conv => whnf)) | (refine ⟨⟨by omega, by omega⟩, ?_⟩; (conv => whnf))))
    refine cond_split (fun h => ?_) (fun h => ?_)
    · have hj : j < ys.length := by have := of_decide_eq_true h; omega
      obtain ⟨ad, rfl⟩ := hb.some (by rw [prsV_len]; omega)
      have hws : IntKind.i64.wrap ((j : Int) + 1) = ((j + 1 : Nat) : Int) := wrap_succ (by omega)
      have hal : acc.length ≤ 100000 := by
        have h1 := List.length_filter_le (newP (xs.map pd)) ((ys.take j).map pd)
        rw [← hacc, List.length_map, List.length_map, List.length_take] at h1
        omega
      have hstep : ((ys.take (j + 1)).map pd).filter (newP (xs.map pd)) = acc.map pd ++ if newP (xs.map pd) (pd ys[j]) = true then [pd ys[j]] else [] := by
        rw [List.take_add_one, List.getElem?_eq_getElem hj, Option.toList_some, List.map_append, List.filter_append, ← hacc]
        congr 1
        rw [List.map_cons, List.map_nil, List.filter_cons, List.filter_nil]
      have hmj : ys[j] ∈ ys := List.getElem_mem hj
      have hC := fun F (hE : Ext F2 F) i (v : Value) (hi : (prA ys[j]).toList[i]? = some v) => pr_cell (hb.mono hE) hj hi
      have hL := fun F (hE : Ext F2 F) (K : Value → Prop) => pr_load (K := K) (hb.mono hE) hj
      have hg := hob _ hmj
      have hnp : newP (xs.map pd) (pd ys[j]) = !(getL (xs.map pd) ys[j].k == some ys[j].v) := rfl
      generalize newP (xs.map pd) (pd ys[j]) = z at hstep hnp
      generalize ys[j] = r at hstep hC hL hg hmj hnp
      have hgt := get xs t r.k r.A r.c F5 F2 (Tx.mono hM.ext) (by omega) (hg.ok.1.mono E5)
      generalize getL (xs.map pd) r.k = gl at hgt hnp
      have c0 := hC F5 E5 0 _ rfl
      ((conv => whnf); repeat (first | (apply load_at; (conv => lhs; whnf); (with_reducible assumption); rfl; (conv => whnf)) | (apply load_at; (conv => lhs; rw [add_plain, add_plain]); (with_reducible assumption); rfl; (conv => whnf)) | (apply loads_at; (conv => lhs; whnf); (with_reducible assumption); rfl; (conv => whnf)) | (refine ⟨⟨by omega, by omega⟩, ?_⟩; (conv => whnf))))
      refine load_step c0 ?_
      ((conv => whnf); repeat (first | (apply load_at; (conv => lhs; whnf); (with_reducible assumption); rfl; (conv => whnf)) | (apply load_at; (conv => lhs; rw [add_plain, add_plain]); (with_reducible assumption); rfl; (conv => whnf)) | (apply loads_at; (conv => lhs; whnf); (with_reducible assumption); rfl; (conv => whnf)) | (refine ⟨⟨by omega, by omega⟩, ?_⟩; (conv => whnf))))
      refine call_of hgt ?_
      rintro v F6 ⟨hv, E6⟩
      have hM6 := hM.mono E6
      have E56 := E5.trans E6
      have tail : ∀ (acc' : List PR), True := fun _ => trivial
      clear tail
      have c1' := hC F6 E56 1 _ rfl
      have hcut : ∃ is : Bool, ∃ w : Value, v = .tuple #[w, .bool is] ∧ ((is = false ∧ z = true) ∨ (is = true ∧ ∃ l W d, w = .slice W l.length d ∧ RowAt F6 W (bytesOf l) ∧ z = !(l == r.v))) := by
        rcases hv with ⟨w, l, h1, h2, W, d, h3, _, h4, _⟩ | ⟨h1, h2⟩
        · refine ⟨true, w, h2, .inr ⟨rfl, l, W, d, h3, h4, ?_⟩⟩
          rw [hnp, h1]
          congr 1
        · refine ⟨false, _, h2, .inl ⟨rfl, ?_⟩⟩
          rw [hnp, h1]
          rfl
      obtain ⟨is, w, rfl, hiw⟩ := hcut
      refine short [0, 1, 6, 7, 8, 9, 10, 43] [.slice A xs.length ca, .slice (some ad) ys.length cb, .pointer (some ⟨t, 0, none⟩), .pointer (some ⟨u, 0, none⟩), .slice A1 acc.length c1, .slice none 0 0, .int .i64 (j : Int), .tuple #[w, .bool is]] rfl fun ρ => ?_
      ((conv => whnf); repeat (first | (apply load_at; (conv => lhs; whnf); (with_reducible assumption); rfl; (conv => whnf)) | (apply load_at; (conv => lhs; rw [add_plain, add_plain]); (with_reducible assumption); rfl; (conv => whnf)) | (apply loads_at; (conv => lhs; whnf); (with_reducible assumption); rfl; (conv => whnf)) | (refine ⟨⟨by omega, by omega⟩, ?_⟩; (conv => whnf))))
      refine draw_cut (fun env' F' => [0, 1, 6, 7, 8, 9, 10, 58].map env' = [.slice A xs.length ca, .slice (some ad) ys.length cb, .pointer (some ⟨t, 0, none⟩), .pointer (some ⟨u, 0, none⟩), .slice A1 acc.length c1, .slice none 0 0, .int .i64 (j : Int), .bool z] ∧ F' = F6) (fun K hK => ?_) ?_
      · refine draw_tree_at tab_ok (by kernel_rfl) [] (DT.row [0, 1, 2, 3, 5, 6, 7, 8, 9] (.fork (DT.row [4, 10, 11, 12] .nil) (DT.row [10, 4, 11, 12] .nil))) (by kernel_rfl) (fun _ => none) (fun _ _ h => by cases h) ?_
        rcases hiw with ⟨rfl, rfl⟩ | ⟨rfl, l, W, d, rfl, hW, hz⟩
        · ((conv => whnf); repeat (first | (apply load_at; (conv => lhs; whnf); (with_reducible assumption); rfl; (conv => whnf)) | (apply load_at; (conv => lhs; rw [add_plain, add_plain]); (with_reducible assumption); rfl; (conv => whnf)) | (apply loads_at; (conv => lhs; whnf); (with_reducible assumption); rfl; (conv => whnf)) | (refine ⟨⟨by omega, by omega⟩, ?_⟩; (conv => whnf))))
          refine ⟨?_, ?_⟩
          · ((conv => whnf); repeat (first | (apply load_at; (conv => lhs; whnf); (with_reducible assumption); rfl; (conv => whnf)) | (apply load_at; (conv => lhs; rw [add_plain, add_plain]); (with_reducible assumption); rfl; (conv => whnf)) | (apply loads_at; (conv => lhs; whnf); (with_reducible assumption); rfl; (conv => whnf)) | (refine ⟨⟨by omega, by omega⟩, ?_⟩; (conv => whnf))))
            exact hK _ _ ⟨rfl, rfl⟩
          · ((conv => whnf); repeat (first | (apply load_at; (conv => lhs; whnf); (with_reducible assumption); rfl; (conv => whnf)) | (apply load_at; (conv => lhs; rw [add_plain, add_plain]); (with_reducible assumption); rfl; (conv => whnf)) | (apply loads_at; (conv => lhs; whnf); (with_reducible assumption); rfl; (conv => whnf)) | (refine ⟨⟨by omega, by omega⟩, ?_⟩; (conv => whnf))))
            exact hK _ _ ⟨rfl, rfl⟩
        · have hq := str_beq l r.v
          have hrv := hg.ok.2.1.mono E56
          ((conv => whnf); repeat (first | (apply load_at; (conv => lhs; whnf); (with_reducible assumption); rfl; (conv => whnf)) | (apply load_at; (conv => lhs; rw [add_plain, add_plain]); (with_reducible assumption); rfl; (conv => whnf)) | (apply loads_at; (conv => lhs; whnf); (with_reducible assumption); rfl; (conv => whnf)) | (refine ⟨⟨by omega, by omega⟩, ?_⟩; (conv => whnf))))
          refine load_step c1' ?_
          ((conv => whnf); repeat (first | (apply load_at; (conv => lhs; whnf); (with_reducible assumption); rfl; (conv => whnf)) | (apply load_at; (conv => lhs; rw [add_plain, add_plain]); (with_reducible assumption); rfl; (conv => whnf)) | (apply loads_at; (conv => lhs; whnf); (with_reducible assumption); rfl; (conv => whnf)) | (refine ⟨⟨by omega, by omega⟩, ?_⟩; (conv => whnf))))
          refine ⟨?_, ?_⟩
          · ((conv => whnf); repeat (first | (apply load_at; (conv => lhs; whnf); (with_reducible assumption); rfl; (conv => whnf)) | (apply load_at; (conv => lhs; rw [add_plain, add_plain]); (with_reducible assumption); rfl; (conv => whnf)) | (apply loads_at; (conv => lhs; whnf); (with_reducible assumption); rfl; (conv => whnf)) | (refine ⟨⟨by omega, by omega⟩, ?_⟩; (conv => whnf))))
            refine conv_str tab_ok l rfl rfl rfl rfl rfl hW ?_
            (conv => whnf)
            refine ⟨(fun _ _ h => by cases h), Ext.refl _, ?_⟩
            ((conv => whnf); repeat (first | (apply load_at; (conv => lhs; whnf); (with_reducible assumption); rfl; (conv => whnf)) | (apply load_at; (conv => lhs; rw [add_plain, add_plain]); (with_reducible assumption); rfl; (conv => whnf)) | (apply loads_at; (conv => lhs; whnf); (with_reducible assumption); rfl; (conv => whnf)) | (refine ⟨⟨by omega, by omega⟩, ?_⟩; (conv => whnf))))
            refine conv_str tab_ok r.v rfl rfl rfl rfl rfl hrv ?_
            (conv => whnf)
            refine ⟨(fun _ _ h => by cases h), ?_⟩
            ((conv => whnf); repeat (first | (apply load_at; (conv => lhs; whnf); (with_reducible assumption); rfl; (conv => whnf)) | (apply load_at; (conv => lhs; rw [add_plain, add_plain]); (with_reducible assumption); rfl; (conv => whnf)) | (apply loads_at; (conv => lhs; whnf); (with_reducible assumption); rfl; (conv => whnf)) | (refine ⟨⟨by omega, by omega⟩, ?_⟩; (conv => whnf))))
            refine hK _ _ ⟨?_, rfl⟩
            rw [hz, ← hq]
            rfl
          · ((conv => whnf); repeat (first | (apply load_at; (conv => lhs; whnf); (with_reducible assumption); rfl; (conv => whnf)) | (apply load_at; (conv => lhs; rw [add_plain, add_plain]); (with_reducible assumption); rfl; (conv => whnf)) | (apply loads_at; (conv => lhs; whnf); (with_reducible assumption); rfl; (conv => whnf)) | (refine ⟨⟨by omega, by omega⟩, ?_⟩; (conv => whnf))))
            refine conv_str tab_ok r.v rfl rfl rfl rfl rfl hrv ?_
            (conv => whnf)
            refine ⟨(fun _ _ h => by cases h), ?_⟩
            ((conv => whnf); repeat (first | (apply load_at; (conv => lhs; whnf); (with_reducible assumption); rfl; (conv => whnf)) | (apply load_at; (conv => lhs; rw [add_plain, add_plain]); (with_reducible assumption); rfl; (conv => whnf)) | (apply loads_at; (conv => lhs; whnf); (with_reducible assumption); rfl; (conv => whnf)) | (refine ⟨⟨by omega, by omega⟩, ?_⟩; (conv => whnf))))
            refine conv_str tab_ok l rfl rfl rfl rfl rfl hW ?_
            (conv => whnf)
            refine ⟨(fun _ _ h => by cases h), Ext.refl _, ?_⟩
            ((conv => whnf); repeat (first | (apply load_at; (conv => lhs; whnf); (with_reducible assumption); rfl; (conv => whnf)) | (apply load_at; (conv => lhs; rw [add_plain, add_plain]); (with_reducible assumption); rfl; (conv => whnf)) | (apply loads_at; (conv => lhs; whnf); (with_reducible assumption); rfl; (conv => whnf)) | (refine ⟨⟨by omega, by omega⟩, ?_⟩; (conv => whnf))))
            refine hK _ _ ⟨?_, rfl⟩
            rw [hz, ← hq]
            rfl
      · rintro env' F7 ⟨he, rfl⟩
        refine short [0, 1, 6, 7, 8, 9, 10, 58] [.slice A xs.length ca, .slice (some ad) ys.length cb, .pointer (some ⟨t, 0, none⟩), .pointer (some ⟨u, 0, none⟩), .slice A1 acc.length c1, .slice none 0 0, .int .i64 (j : Int), .bool z] he fun ρ => ?_
        ((conv => whnf); repeat (first | (apply load_at; (conv => lhs; whnf); (with_reducible assumption); rfl; (conv => whnf)) | (apply load_at; (conv => lhs; rw [add_plain, add_plain]); (with_reducible assumption); rfl; (conv => whnf)) | (apply loads_at; (conv => lhs; whnf); (with_reducible assumption); rfl; (conv => whnf)) | (refine ⟨⟨by omega, by omega⟩, ?_⟩; (conv => whnf))))
        refine cond_split (fun h => ?_) (fun h => ?_)
        · have e : z = true := h
          rw [if_pos e] at hstep
          refine short [0, 1, 6, 7, 8, 9, 10] [.slice A xs.length ca, .slice (some ad) ys.length cb, .pointer (some ⟨t, 0, none⟩), .pointer (some ⟨u, 0, none⟩), .slice A1 acc.length c1, .slice none 0 0, .int .i64 (j : Int)] rfl fun ρ => ?_
          ((conv => whnf); repeat (first | (apply load_at; (conv => lhs; whnf); (with_reducible assumption); rfl; (conv => whnf)) | (apply load_at; (conv => lhs; rw [add_plain, add_plain]); (with_reducible assumption); rfl; (conv => whnf)) | (apply loads_at; (conv => lhs; whnf); (with_reducible assumption); rfl; (conv => whnf)) | (refine ⟨⟨by omega, by omega⟩, ?_⟩; (conv => whnf))))
          refine hL F7 E56 _ ?_
          ((conv => whnf); repeat (first | (apply load_at; (conv => lhs; whnf); (with_reducible assumption); rfl; (conv => whnf)) | (apply load_at; (conv => lhs; rw [add_plain, add_plain]); (with_reducible assumption); rfl; (conv => whnf)) | (apply loads_at; (conv => lhs; whnf); (with_reducible assumption); rfl; (conv => whnf)) | (refine ⟨⟨by omega, by omega⟩, ?_⟩; (conv => whnf))))
          refine new_step (.cells (prA r) 75) rfl fun g h0_g => ?_
          have hE_g := Ext.new h0_g (.cells (prA r) 75)
          have hB_g := Heap.put_same F7 g (.cells (prA r) 75)
          generalize F7.put g _ = F8 at hE_g hB_g ⊢
          have hM8 := hM6.mono hE_g
          ((conv => whnf); repeat (first | (apply load_at; (conv => lhs; whnf); (with_reducible assumption); rfl; (conv => whnf)) | (apply load_at; (conv => lhs; rw [add_plain, add_plain]); (with_reducible assumption); rfl; (conv => whnf)) | (apply loads_at; (conv => lhs; whnf); (with_reducible assumption); rfl; (conv => whnf)) | (refine ⟨⟨by omega, by omega⟩, ?_⟩; (conv => whnf))))
          refine append_mine tab_ok (m := 1) (ys := (prA r).toList) (y := .slice (some ⟨g, 0, none⟩) 1 1) rfl rfl rfl rfl rfl ⟨_, rfl, fun k h => by cases h⟩ ⟨_, rfl, rfl⟩ (by decide) hM8 ⟨rfl, .inl ⟨_, _, rfl, row_blk hB_g⟩⟩ (pr_one _) (by show 2 * (acc.length + 1) * 48 ≤ _; omega) fun S9 F9 hM9 _ => ?_
          have hM' : Mine F4 F9 S9 75 2 (acc ++ [r]).length (prsV (acc ++ [r])) := by
            rw [List.length_append, prsV_app]; exact hM9
          ((conv => whnf); repeat (first | (apply load_at; (conv => lhs; whnf); (with_reducible assumption); rfl; (conv => whnf)) | (apply load_at; (conv => lhs; rw [add_plain, add_plain]); (with_reducible assumption); rfl; (conv => whnf)) | (apply loads_at; (conv => lhs; whnf); (with_reducible assumption); rfl; (conv => whnf)) | (refine ⟨⟨by omega, by omega⟩, ?_⟩; (conv => whnf))))
          refine ⟨m - 1, by omega, j + 1, acc ++ [r], S9, by omega, ?_, hM', ?_, fun x hx => ?_⟩
          · rw [← hws]
            rfl
          · rw [hstep, List.map_append]; rfl
          · rcases List.mem_append.1 hx with hx | hx
            · exact hmem x hx
            · rw [List.mem_singleton.1 hx]; exact hmj
        · have e : ¬ z = true := by rw [show z = false from h]; decide
          rw [if_neg e, List.append_nil] at hstep
          ((conv => whnf); repeat (first | (apply load_at; (conv => lhs; whnf); (with_reducible assumption); rfl; (conv => whnf)) | (apply load_at; (conv => lhs; rw [add_plain, add_plain]); (with_reducible assumption); rfl; (conv => whnf)) | (apply loads_at; (conv => lhs; whnf); (with_reducible assumption); rfl; (conv => whnf)) | (refine ⟨⟨by omega, by omega⟩, ?_⟩; (conv => whnf))))
          refine ⟨m - 1, by omega, j + 1, acc, _, by omega, ?_, hM6, hstep.symm, hmem⟩
          rw [← hws]
          rfl
    · have hj : j = ys.length := by have := of_decide_eq_false h; omega
      rw [hj, List.take_length, ← hPe] at hacc
      clear hm hj
      have hps : RowP F5 (.slice A1 acc.length c1) acc := ⟨⟨A1, c1, rfl, hc1, hr1⟩, fun r hr => (hob r (hmem r hr)).mono E5⟩
      have Ty5 := Ty.mono hM.ext
      refine short [0, 1, 7, 8, 9] [.slice A xs.length ca, .slice B ys.length cb, .pointer (some ⟨u, 0, none⟩), .slice A1 acc.length c1, .slice none 0 0] rfl fun ρ => ?_
      ((conv => whnf); repeat (first | (apply load_at; (conv => lhs; whnf); (with_reducible assumption); rfl; (conv => whnf)) | (apply load_at; (conv => lhs; rw [add_plain, add_plain]); (with_reducible assumption); rfl; (conv => whnf)) | (apply loads_at; (conv => lhs; whnf); (with_reducible assumption); rfl; (conv => whnf)) | (refine ⟨⟨by omega, by omega⟩, ?_⟩; (conv => whnf))))
      refine loop_slots [0, 1, 7, 8, 9, 13] (fun m vs F' => ∃ (j : Nat) (ds : List BR) (S : Value), j + m = xs.length ∧ vs = [.slice A xs.length ca, .slice B ys.length cb, .pointer (some ⟨u, 0, none⟩), .slice A1 acc.length c1, S, .int .i64 (j : Int)] ∧ Mine F5 F' S 55 1 ds.length (bsV ds) ∧ ds.map BR.k = (((xs.take j).map pd).filter (goneP (ys.map pd))).map Prod.fst ∧ ∀ d ∈ ds, RowAt F2 d.A (bytesOf d.k)) xs.length ⟨0, [], .slice none 0 0, by omega, rfl, Mine.nil F5 F5 _ _ (Ext.refl _), rfl, fun r hr => (List.not_mem_nil hr).elim⟩ ?_
      rintro m vs F6 ρ ⟨j, ds, S, hm, rfl, hN, hds, hdm⟩
      have E6 := E5.trans hN.ext
      obtain ⟨A2, c2, rfl, hc2, hr2⟩ := hN.own.row
      ((conv => whnf); repeat (first | (apply load_at; (conv => lhs; whnf); (with_reducible assumption); rfl; (conv => whnf)) | (apply load_at; (conv => lhs; rw [add_plain, add_plain]); (with_reducible assumption); rfl; (conv => whnf)) | (apply loads_at; (conv => lhs; whnf); (with_reducible assumption); rfl; (conv => whnf)) | (refine ⟨⟨by omega, by omega⟩, ?_⟩; (conv => whnf))))
      refine cond_split (fun h => ?_) (fun h => ?_)
      · have hj : j < xs.length := by have := of_decide_eq_true h; omega
        obtain ⟨ad, rfl⟩ := ha.some (by rw [prsV_len]; omega)
        have hws : IntKind.i64.wrap ((j : Int) + 1) = ((j + 1 : Nat) : Int) := wrap_succ (by omega)
        have hdl : ds.length ≤ 100000 := by
          have h1 := List.length_filter_le (goneP (ys.map pd)) ((xs.take j).map pd)
          have h2 := congrArg List.length hds
          rw [List.length_map, List.length_map] at h2
          rw [List.length_map, List.length_take] at h1
          omega
        have hstep : (((xs.take (j + 1)).map pd).filter (goneP (ys.map pd))).map Prod.fst = ds.map BR.k ++ if goneP (ys.map pd) (pd xs[j]) = true then [xs[j].k] else [] := by
          rw [List.take_add_one, List.getElem?_eq_getElem hj, Option.toList_some, List.map_append, List.filter_append, List.map_append, ← hds]
          congr 1
          rw [List.map_cons, List.map_nil, List.filter_cons, List.filter_nil]
          split <;> rfl
        have hC := fun F (hE : Ext F2 F) i (v : Value) (hi : (prA xs[j]).toList[i]? = some v) => pr_cell (ha.mono hE) hj hi
        have hg := hoa _ (List.getElem_mem hj)
        have hnp : goneP (ys.map pd) (pd xs[j]) = (getL (ys.map pd) xs[j].k).isNone := rfl
        generalize goneP (ys.map pd) (pd xs[j]) = z at hstep hnp
        generalize xs[j] = r at hstep hC hg hnp
        have hgt := get ys u r.k r.A r.c F6 F2 (Ty5.mono hN.ext) (by omega) (hg.ok.1.mono E6)
        generalize getL (ys.map pd) r.k = gl at hgt hnp
        have c0 := hC F6 E6 0 _ rfl
        ((conv => whnf); repeat (first | (apply load_at; (conv => lhs; whnf); (with_reducible assumption); rfl; (conv => whnf)) | (apply load_at; (conv => lhs; rw [add_plain, add_plain]); (with_reducible assumption); rfl; (conv => whnf)) | (apply loads_at; (conv => lhs; whnf); (with_reducible assumption); rfl; (conv => whnf)) | (refine ⟨⟨by omega, by omega⟩, ?_⟩; (conv => whnf))))
        refine load_step c0 ?_
        ((conv => whnf); repeat (first | (apply load_at; (conv => lhs; whnf); (with_reducible assumption); rfl; (conv => whnf)) | (apply load_at; (conv => lhs; rw [add_plain, add_plain]); (with_reducible assumption); rfl; (conv => whnf)) | (apply loads_at; (conv => lhs; whnf); (with_reducible assumption); rfl; (conv => whnf)) | (refine ⟨⟨by omega, by omega⟩, ?_⟩; (conv => whnf))))
        refine call_of hgt ?_
        rintro v F7 ⟨hv, E7⟩
        have hN7 := hN.mono E7
        have E67 := E6.trans E7
        have c0' := hC F7 E67 0 _ rfl
        have hcut : ∃ w : Value, v = .tuple #[w, .bool (!z)] := by
          rcases hv with ⟨w, l, h1, h2, _⟩ | ⟨h1, h2⟩
          · exact ⟨w, by rw [h2, hnp, h1]; rfl⟩
          · exact ⟨_, by rw [h2, hnp, h1]; rfl⟩
        obtain ⟨w, rfl⟩ := hcut
        refine short [0, 1, 7, 8, 9, 13, 79] [.slice (some ad) xs.length ca, .slice B ys.length cb, .pointer (some ⟨u, 0, none⟩), .slice A1 acc.length c1, .slice A2 ds.length c2, .int .i64 (j : Int), .tuple #[w, .bool (!z)]] rfl fun ρ => ?_
        ((conv => whnf); repeat (first | (apply load_at; (conv => lhs; whnf); (with_reducible assumption); rfl; (conv => whnf)) | (apply load_at; (conv => lhs; rw [add_plain, add_plain]); (with_reducible assumption); rfl; (conv => whnf)) | (apply loads_at; (conv => lhs; whnf); (with_reducible assumption); rfl; (conv => whnf)) | (refine ⟨⟨by omega, by omega⟩, ?_⟩; (conv => whnf))))
        refine cond_split (fun h => ?_) (fun h => ?_)
        · have e : z = true := by cases z with | true => rfl | false => exact absurd h (by decide)
          rw [if_pos e] at hstep
          refine short [0, 1, 7, 8, 9, 13] [.slice (some ad) xs.length ca, .slice B ys.length cb, .pointer (some ⟨u, 0, none⟩), .slice A1 acc.length c1, .slice A2 ds.length c2, .int .i64 (j : Int)] rfl fun ρ => ?_
          ((conv => whnf); repeat (first | (apply load_at; (conv => lhs; whnf); (with_reducible assumption); rfl; (conv => whnf)) | (apply load_at; (conv => lhs; rw [add_plain, add_plain]); (with_reducible assumption); rfl; (conv => whnf)) | (apply loads_at; (conv => lhs; whnf); (with_reducible assumption); rfl; (conv => whnf)) | (refine ⟨⟨by omega, by omega⟩, ?_⟩; (conv => whnf))))
          refine load_step c0' ?_
          ((conv => whnf); repeat (first | (apply load_at; (conv => lhs; whnf); (with_reducible assumption); rfl; (conv => whnf)) | (apply load_at; (conv => lhs; rw [add_plain, add_plain]); (with_reducible assumption); rfl; (conv => whnf)) | (apply loads_at; (conv => lhs; whnf); (with_reducible assumption); rfl; (conv => whnf)) | (refine ⟨⟨by omega, by omega⟩, ?_⟩; (conv => whnf))))
          refine new_step (.cells #[brV ⟨r.k, r.A, r.c⟩] 55) rfl fun g h0_g => ?_
          have hE_g := Ext.new h0_g (.cells #[brV ⟨r.k, r.A, r.c⟩] 55)
          have hB_g := Heap.put_same F7 g (.cells #[brV ⟨r.k, r.A, r.c⟩] 55)
          generalize F7.put g _ = F8 at hE_g hB_g ⊢
          have hN8 := hN7.mono hE_g
          ((conv => whnf); repeat (first | (apply load_at; (conv => lhs; whnf); (with_reducible assumption); rfl; (conv => whnf)) | (apply load_at; (conv => lhs; rw [add_plain, add_plain]); (with_reducible assumption); rfl; (conv => whnf)) | (apply loads_at; (conv => lhs; whnf); (with_reducible assumption); rfl; (conv => whnf)) | (refine ⟨⟨by omega, by omega⟩, ?_⟩; (conv => whnf))))
          refine append_mine tab_ok (m := 1) (ys := [brV ⟨r.k, r.A, r.c⟩]) (y := .slice (some ⟨g, 0, none⟩) 1 1) rfl rfl rfl rfl rfl ⟨_, rfl, fun k h => by cases h⟩ ⟨_, rfl, rfl⟩ (by decide) hN8 ⟨rfl, .inl ⟨_, _, rfl, row_blk hB_g⟩⟩ (one_slice _ _ _) (by show 2 * (ds.length + 1) * 24 ≤ _; omega) fun S9 F9 hN9 _ => ?_
          have hN' : Mine F5 F9 S9 55 1 (ds ++ [(⟨r.k, r.A, r.c⟩ : BR)]).length (bsV (ds ++ [(⟨r.k, r.A, r.c⟩ : BR)])) := by
            rw [List.length_append, bsV_app]; exact hN9
          ((conv => whnf); repeat (first | (apply load_at; (conv => lhs; whnf); (with_reducible assumption); rfl; (conv => whnf)) | (apply load_at; (conv => lhs; rw [add_plain, add_plain]); (with_reducible assumption); rfl; (conv => whnf)) | (apply loads_at; (conv => lhs; whnf); (with_reducible assumption); rfl; (conv => whnf)) | (refine ⟨⟨by omega, by omega⟩, ?_⟩; (conv => whnf))))
          refine ⟨m - 1, by omega, j + 1, _, S9, by omega, ?_, hN', ?_, fun x hx => ?_⟩
          · rw [← hws]
            rfl
          · rw [hstep, List.map_append]; rfl
          · rcases List.mem_append.1 hx with hx | hx
            · exact hdm x hx
            · rw [List.mem_singleton.1 hx]; exact hg.ok.1
        · have e : ¬ z = true := by cases z with | true => exact absurd h (by decide) | false => decide
          rw [if_neg e, List.append_nil] at hstep
          ((conv => whnf); repeat (first | (apply load_at; (conv => lhs; whnf); (with_reducible assumption); rfl; (conv => whnf)) | (apply load_at; (conv => lhs; rw [add_plain, add_plain]); (with_reducible assumption); rfl; (conv => whnf)) | (apply loads_at; (conv => lhs; whnf); (with_reducible assumption); rfl; (conv => whnf)) | (refine ⟨⟨by omega, by omega⟩, ?_⟩; (conv => whnf))))
          refine ⟨m - 1, by omega, j + 1, ds, _, by omega, ?_, hN7, hstep.symm, hdm⟩
          rw [← hws]
          rfl
      · have hj : j = xs.length := by have := of_decide_eq_false h; omega
        rw [hj, List.take_length, ← hDe] at hds
        ((conv => whnf); repeat (first | (apply load_at; (conv => lhs; whnf); (with_reducible assumption); rfl; (conv => whnf)) | (apply load_at; (conv => lhs; rw [add_plain, add_plain]); (with_reducible assumption); rfl; (conv => whnf)) | (apply loads_at; (conv => lhs; whnf); (with_reducible assumption); rfl; (conv => whnf)) | (refine ⟨⟨by omega, by omega⟩, ?_⟩; (conv => whnf))))
        exact ⟨acc, ds, _, _, rfl, hps.mono hN.ext, hacc, ⟨⟨A2, c2, rfl, hc2, hr2⟩, fun d hd => (hdm d hd).mono E6⟩, hds, E6⟩
end Go.Proofs.Ytlkdbmoocajjlaa.Al

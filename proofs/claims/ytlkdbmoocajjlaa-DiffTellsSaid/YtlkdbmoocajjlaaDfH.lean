/- exchequerref52.Apply, over what is known of memory. -/
import Derived.Test.YtlkdbmoocajjlaaDfG
namespace Go.Proofs.Ytlkdbmoocajjlaa.Al
open Go Go.Al Go.Proofs Go.RowKit
set_option maxHeartbeats 8000000
set_option maxRecDepth 100000
set_option linter.unusedVariables false
set_option linter.unusedSimpArgs false
def delP (k : List UInt8) (p : PD) : Bool := !(p.1 == k)
def delsL (l : List PD) (ks : List (List UInt8)) : List PD := ks.foldl (fun l k => l.filter (delP k)) l
def applyL (a puts : List PD) (dels : List (List UInt8)) : List PD := if risL a = true then puts.foldl putL' (delsL a dels) else []
theorem filter_pd (k : List UInt8) (rs : List PR) : (rs.filter (delF k)).map pd = (rs.map pd).filter (delP k) := by
  rw [List.filter_map]
  rfl
theorem bs_cell {F : Heap} {ad : Addr} {ds : List BR} {j : Nat} {d : BR} (hr : RowAt F (some ad) (bsV ds)) (hd : ds[j]? = some d) : F.cell? (ad.add (Int.toNat (j : Int) * 1)) = some (brV d) := by
  rw [Int.toNat_natCast, Nat.mul_one]
  refine hr.cell ?_
  unfold bsV
  rw [List.getElem?_map, hd]
  rfl
theorem refApply (xs ys : List PR) (ds : List BR) (A B C : Option Addr) (ca cb cc : Nat) (F : Heap) (ha : RowAt F A (prsV xs)) (hb : RowAt F B (prsV ys)) (hd : RowAt F C (bsV ds)) (hla : xs.length ≤ 300) (hlb : ys.length ≤ 300) (hld : ds.length ≤ 300) (hca : xs.length ≤ ca) (hoa : ∀ r ∈ xs, PrG F r) (hob : ∀ r ∈ ys, PrG F r) (hod : ∀ d ∈ ds, RowAt F d.A (bytesOf d.k)) :
    FnK Try.prog 25 #[.slice A xs.length ca, .slice B ys.length cb, .slice C ds.length cc] F (fun v F' => ∃ rs, RowP F' v rs ∧ rs.map pd = applyL (xs.map pd) (ys.map pd) (ds.map BR.k) ∧ Ext F F') := by
  have hra := refRight xs A ca F ha (by omega) (fun r hr => (hoa r hr).ok.1)
  have hPe : applyL (xs.map pd) (ys.map pd) (ds.map BR.k) = if risB (xs.map PR.k) = true then (ys.map pd).foldl putL' (delsL (xs.map pd) (ds.map BR.k)) else [] := by unfold applyL risL; rw [map_pd_fst]
  generalize applyL (xs.map pd) (ys.map pd) (ds.map BR.k) = P at hPe ⊢
  generalize risB (xs.map PR.k) = qa at hra hPe
  (refine fn_walk tab_ok Try.func25 rfl rfl rfl rfl ?_; (conv => whnf))
  refine call_of hra ?_
  rintro v F1 ⟨rfl, rfl⟩
  cases qa with
  | false =>
    rw [if_neg (by decide)] at hPe
    ((conv => whnf); repeat (first | (apply load_at; (conv => lhs; whnf); (with_reducible assumption); rfl; (conv => whnf)) | (apply load_at; (conv => lhs; rw [add_plain, add_plain]); (with_reducible assumption); rfl; (conv => whnf)) | (apply loads_at; (conv => lhs; whnf); (with_reducible assumption); rfl; (conv => whnf)) | (refine ⟨⟨by omega, by omega⟩, ?_⟩; (conv => whnf))))
    exact ⟨[], RowP.nil _, hPe.symm, Ext.refl _⟩
  | true =>
  rw [if_pos rfl] at hPe
  clear hra
  ((conv => whnf); repeat (first | (apply load_at; (conv => lhs; whnf); (with_reducible assumption); rfl; (conv => whnf)) | (apply load_at; (conv => lhs; rw [add_plain, add_plain]); (with_reducible assumption); rfl; (conv => whnf)) | (apply loads_at; (conv => lhs; whnf); (with_reducible assumption); rfl; (conv => whnf)) | (refine ⟨⟨by omega, by omega⟩, ?_⟩; (conv => whnf))))
  refine new_step (tabO (.slice A xs.length ca)) rfl fun t h0_t => ?_
  have hE_t := Ext.new h0_t (tabO (.slice A xs.length ca))
  have hB_t := Heap.put_same F1 t (tabO (.slice A xs.length ca))
  generalize F1.put t _ = F2 at hE_t hB_t ⊢
  have T2 : Tab F2 F1 t xs := ⟨⟨A, ca, hB_t, hca, ha⟩, hE_t, h0_t, hoa⟩
  ((conv => whnf); repeat (first | (apply load_at; (conv => lhs; whnf); (with_reducible assumption); rfl; (conv => whnf)) | (apply load_at; (conv => lhs; rw [add_plain, add_plain]); (with_reducible assumption); rfl; (conv => whnf)) | (apply loads_at; (conv => lhs; whnf); (with_reducible assumption); rfl; (conv => whnf)) | (refine ⟨⟨by omega, by omega⟩, ?_⟩; (conv => whnf))))
  refine loop_slots [0, 1, 2, 7, 8] (fun m vs F' => ∃ (j : Nat) (rs : List PR) (G : Heap), j + m = ds.length ∧ vs = [.slice A xs.length ca, .slice B ys.length cb, .slice C ds.length cc, .pointer (some ⟨t, 0, none⟩), .int .i64 (j : Int)] ∧ Tab F' G t rs ∧ Ext F1 G ∧ rs.length ≤ 300 ∧ rs.map pd = delsL (xs.map pd) ((ds.take j).map BR.k)) ds.length ⟨0, xs, F1, by omega, rfl, T2, Ext.refl _, hla, rfl⟩ ?_
  rintro m vs F3 ρ ⟨j, rs, G, hm, rfl, hT, hG, hrl, hpd⟩
  have hE := hG.trans hT.base
  ((conv => whnf); repeat (first | (apply load_at; (conv => lhs; whnf); (with_reducible assumption); rfl; (conv => whnf)) | (apply load_at; (conv => lhs; rw [add_plain, add_plain]); (with_reducible assumption); rfl; (conv => whnf)) | (apply loads_at; (conv => lhs; whnf); (with_reducible assumption); rfl; (conv => whnf)) | (refine ⟨⟨by omega, by omega⟩, ?_⟩; (conv => whnf))))
  refine cond_split (fun h => ?_) (fun h => ?_)
  · have hj : j < ds.length := by have := of_decide_eq_true h; omega
    obtain ⟨ad, rfl⟩ := hd.some (by rw [bsV_len]; omega)
    have hws : IntKind.i64.wrap ((j : Int) + 1) = ((j + 1 : Nat) : Int) := wrap_succ (by omega)
    have hc := bs_cell (hd.mono hE) (List.getElem?_eq_getElem hj)
    have hstep : delsL (xs.map pd) ((ds.take (j + 1)).map BR.k) = (rs.map pd).filter (delP ds[j].k) := by
      rw [List.take_add_one, List.getElem?_eq_getElem hj, Option.toList_some, List.map_append, delsL, List.foldl_append, hpd]
      rfl
    have hg := hod _ (List.getElem_mem hj)
    generalize ds[j] = d at hc hstep hg
    obtain ⟨k, KA, kc⟩ := d
    ((conv => whnf); repeat (first | (apply load_at; (conv => lhs; whnf); (with_reducible assumption); rfl; (conv => whnf)) | (apply load_at; (conv => lhs; rw [add_plain, add_plain]); (with_reducible assumption); rfl; (conv => whnf)) | (apply loads_at; (conv => lhs; whnf); (with_reducible assumption); rfl; (conv => whnf)) | (refine ⟨⟨by omega, by omega⟩, ?_⟩; (conv => whnf))))
    refine load_step hc ?_
    ((conv => whnf); repeat (first | (apply load_at; (conv => lhs; whnf); (with_reducible assumption); rfl; (conv => whnf)) | (apply load_at; (conv => lhs; rw [add_plain, add_plain]); (with_reducible assumption); rfl; (conv => whnf)) | (apply loads_at; (conv => lhs; whnf); (with_reducible assumption); rfl; (conv => whnf)) | (refine ⟨⟨by omega, by omega⟩, ?_⟩; (conv => whnf))))
    refine call_of (del rs t k KA kc F3 G hT (by omega) (hg.mono hE)) ?_
    rintro v F4 ⟨⟨b, rfl⟩, G', T4, hGG, _⟩
    have hfl := List.length_filter_le (delF k) rs
    ((conv => whnf); repeat (first | (apply load_at; (conv => lhs; whnf); (with_reducible assumption); rfl; (conv => whnf)) | (apply load_at; (conv => lhs; rw [add_plain, add_plain]); (with_reducible assumption); rfl; (conv => whnf)) | (apply loads_at; (conv => lhs; whnf); (with_reducible assumption); rfl; (conv => whnf)) | (refine ⟨⟨by omega, by omega⟩, ?_⟩; (conv => whnf))))
    refine ⟨m - 1, by omega, j + 1, _, G', by omega, ?_, T4, hG.trans hGG, by omega, ?_⟩
    · rw [← hws]
      rfl
    · rw [filter_pd, hstep]
  · have hj : j = ds.length := by have := of_decide_eq_false h; omega
    rw [hj, List.take_length] at hpd
    clear hm hj
    refine short [0, 1, 2, 7] [.slice A xs.length ca, .slice B ys.length cb, .slice C ds.length cc, .pointer (some ⟨t, 0, none⟩)] rfl fun ρ => ?_
    ((conv => whnf); repeat (first | (apply load_at; (conv => lhs; whnf); (with_reducible assumption); rfl; (conv => whnf)) | (apply load_at; (conv => lhs; rw [add_plain, add_plain]); (with_reducible assumption); rfl; (conv => whnf)) | (apply loads_at; (conv => lhs; whnf); (with_reducible assumption); rfl; (conv => whnf)) | (refine ⟨⟨by omega, by omega⟩, ?_⟩; (conv => whnf))))
    refine loop_slots [1, 7, 9] (fun m vs F' => ∃ (j : Nat) (rs' : List PR) (G : Heap), j + m = ys.length ∧ vs = [.slice B ys.length cb, .pointer (some ⟨t, 0, none⟩), .int .i64 (j : Int)] ∧ Tab F' G t rs' ∧ Ext F1 G ∧ rs'.length ≤ 300 + j ∧ rs'.map pd = ((ys.take j).map pd).foldl putL' (rs.map pd)) ys.length ⟨0, rs, G, by omega, rfl, hT, hG, hrl, rfl⟩ ?_
    rintro m vs F4 ρ ⟨j, rs', G4, hm, rfl, hT4, hG4, hrl4, hpd4⟩
    have hE4 := hG4.trans hT4.base
    ((conv => whnf); repeat (first | (apply load_at; (conv => lhs; whnf); (with_reducible assumption); rfl; (conv => whnf)) | (apply load_at; (conv => lhs; rw [add_plain, add_plain]); (with_reducible assumption); rfl; (conv => whnf)) | (apply loads_at; (conv => lhs; whnf); (with_reducible assumption); rfl; (conv => whnf)) | (refine ⟨⟨by omega, by omega⟩, ?_⟩; (conv => whnf))))
    refine cond_split (fun h => ?_) (fun h => ?_)
    · have hj : j < ys.length := by have := of_decide_eq_true h; omega
      obtain ⟨ad, rfl⟩ := hb.some (by rw [prsV_len]; omega)
      have hws : IntKind.i64.wrap ((j : Int) + 1) = ((j + 1 : Nat) : Int) := wrap_succ (by omega)
      have hstep : ((ys.take (j + 1)).map pd).foldl putL' (rs.map pd) = putL' (rs'.map pd) (pd ys[j]) := by
        rw [List.take_add_one, List.getElem?_eq_getElem hj, Option.toList_some, List.map_append, List.foldl_append, ← hpd4]
        rfl
      have c0 := pr_cell (hb.mono hE4) hj (i := 0) rfl
      have c1 := pr_cell (hb.mono hE4) hj (i := 1) rfl
      have hg := (hob _ (List.getElem_mem hj)).mono hE4
      generalize ys[j] = r at hstep c0 c1 hg
      obtain ⟨rk, ra, rc, rv, rb, rcc⟩ := r
      obtain ⟨⟨g1, g2, g3, g4⟩, g5, g6⟩ := hg
      ((conv => whnf); repeat (first | (apply load_at; (conv => lhs; whnf); (with_reducible assumption); rfl; (conv => whnf)) | (apply load_at; (conv => lhs; rw [add_plain, add_plain]); (with_reducible assumption); rfl; (conv => whnf)) | (apply loads_at; (conv => lhs; whnf); (with_reducible assumption); rfl; (conv => whnf)) | (refine ⟨⟨by omega, by omega⟩, ?_⟩; (conv => whnf))))
      refine draw_walk tab_ok (by kernel_rfl) [0, 1, 2, 3, 4, 5, 6, 7, 8, 9, 10, 11] (by kernel_rfl) ?_
      ((conv => whnf); repeat (first | (apply load_at; (conv => lhs; whnf); (with_reducible assumption); rfl; (conv => whnf)) | (apply load_at; (conv => lhs; rw [add_plain, add_plain]); (with_reducible assumption); rfl; (conv => whnf)) | (apply loads_at; (conv => lhs; whnf); (with_reducible assumption); rfl; (conv => whnf)) | (refine ⟨⟨by omega, by omega⟩, ?_⟩; (conv => whnf))))
      refine load_step c0 ?_
      ((conv => whnf); repeat (first | (apply load_at; (conv => lhs; whnf); (with_reducible assumption); rfl; (conv => whnf)) | (apply load_at; (conv => lhs; rw [add_plain, add_plain]); (with_reducible assumption); rfl; (conv => whnf)) | (apply loads_at; (conv => lhs; whnf); (with_reducible assumption); rfl; (conv => whnf)) | (refine ⟨⟨by omega, by omega⟩, ?_⟩; (conv => whnf))))
      refine load_step c1 ?_
      ((conv => whnf); repeat (first | (apply load_at; (conv => lhs; whnf); (with_reducible assumption); rfl; (conv => whnf)) | (apply load_at; (conv => lhs; rw [add_plain, add_plain]); (with_reducible assumption); rfl; (conv => whnf)) | (apply loads_at; (conv => lhs; whnf); (with_reducible assumption); rfl; (conv => whnf)) | (refine ⟨⟨by omega, by omega⟩, ?_⟩; (conv => whnf))))
      refine call_of (put rs' t rk ra rc rv rb rcc F4 G4 hT4 (by omega) g1 g2 g5 g6) ?_
      rintro v F5 ⟨rfl, G', r, hk, hv, T5, hGG, _⟩
      have hpr := putR_pd r rs'
      have hpl := putR_len rs' r (lbN (rs'.map PR.k) rk) (by have := lbN_le rk (rs'.map PR.k); rw [List.length_map] at this; exact this)
      rw [hk, show pd r = (rk, rv) by unfold pd; rw [hk, hv]] at hpr
      ((conv => whnf); repeat (first | (apply load_at; (conv => lhs; whnf); (with_reducible assumption); rfl; (conv => whnf)) | (apply load_at; (conv => lhs; rw [add_plain, add_plain]); (with_reducible assumption); rfl; (conv => whnf)) | (apply loads_at; (conv => lhs; whnf); (with_reducible assumption); rfl; (conv => whnf)) | (refine ⟨⟨by omega, by omega⟩, ?_⟩; (conv => whnf))))
      refine ⟨m - 1, by omega, j + 1, _, G', by omega, ?_, T5, hG4.trans hGG, by omega, hpr.trans hstep.symm⟩
      rw [← hws]
      rfl
    · have hj : j = ys.length := by have := of_decide_eq_false h; omega
      rw [hj, List.take_length, hpd, ← hPe] at hpd4
      obtain ⟨A2, c2, hB2, hc2, hr2⟩ := hT4.cell
      ((conv => whnf); repeat (first | (apply load_at; (conv => lhs; whnf); (with_reducible assumption); rfl; (conv => whnf)) | (apply load_at; (conv => lhs; rw [add_plain, add_plain]); (with_reducible assumption); rfl; (conv => whnf)) | (apply loads_at; (conv => lhs; whnf); (with_reducible assumption); rfl; (conv => whnf)) | (refine ⟨⟨by omega, by omega⟩, ?_⟩; (conv => whnf))))
      exact ⟨rs', ⟨⟨A2, c2, rfl, hc2, hr2.mono hT4.base⟩, fun r hr => (hT4.ok r hr).mono hT4.base⟩, hpd4, hE4⟩
end Go.Proofs.Ytlkdbmoocajjlaa.Al

/- diff.Apply, over what is known of memory. -/
import Derived.Test.YtlkdbmoocajjlaaDfK
namespace Go.Proofs.Ytlkdbmoocajjlaa.Al
open Go Go.Al Go.Proofs Go.RowKit
set_option maxHeartbeats 8000000
set_option maxRecDepth 100000
set_option linter.unusedVariables false
set_option linter.unusedSimpArgs false
theorem delsL_eq : ∀ (ks : List (List UInt8)) (l : List PD), delsL l ks = l.filter fun p => !ks.any fun k => k == p.1
  | [], l => by
    show l = _
    exact (List.filter_eq_self.2 fun _ _ => rfl).symm
  | k :: ks, l => by
    show delsL (l.filter (delP k)) ks = _
    rw [delsL_eq ks, List.filter_filter]
    congr 1
    funext p
    rw [List.any_cons, Bool.not_or, Bool.and_comm]
    congr 1
    unfold delP
    rw [Bool.beq_comm]
theorem anyD_pd (ds : List BR) (rs : List PR) : (rs.filter fun r => !anyD ds r).map pd = delsL (rs.map pd) (ds.map BR.k) := by
  rw [delsL_eq, List.filter_map]
  congr 1
  congr 1
  funext r
  show (!ds.any fun d => d.k == r.k) = !(ds.map BR.k).any fun k => k == r.k
  rw [List.any_map]
  rfl
abbrev RisL (l : List PD) : Prop := Rises (l.map Prod.fst)
theorem putL_mem (p : PD) : ∀ (l : List PD) (q : PD), q ∈ putL' l p → q = p ∨ q ∈ l
  | [], q, h => .inl (List.mem_singleton.1 h)
  | x :: l, q, h => by
    have h : q ∈ (if ltB x.1 p.1 = true then x :: putL' l p else if x.1 = p.1 then p :: l else p :: x :: l) := h
    split at h
    · rcases List.mem_cons.1 h with rfl | h
      · exact .inr List.mem_cons_self
      · rcases putL_mem p l q h with h | h
        · exact .inl h
        · exact .inr (List.mem_cons_of_mem _ h)
    · split at h
      · rcases List.mem_cons.1 h with rfl | h
        · exact .inl rfl
        · exact .inr (List.mem_cons_of_mem _ h)
      · rcases List.mem_cons.1 h with rfl | h
        · exact .inl rfl
        · exact .inr h
theorem ris_cons {x : PD} {l : List PD} : RisL (x :: l) ↔ (∀ q ∈ l, ltB x.1 q.1 = true) ∧ RisL l := by
  show List.Pairwise _ (x.1 :: l.map Prod.fst) ↔ _
  rw [List.pairwise_cons]
  constructor
  · rintro ⟨h1, h2⟩
    exact ⟨fun q hq => h1 _ (List.mem_map_of_mem hq), h2⟩
  · rintro ⟨h1, h2⟩
    refine ⟨fun k hk => ?_, h2⟩
    obtain ⟨q, hq, rfl⟩ := List.mem_map.1 hk
    exact h1 q hq
theorem putL_ris (p : PD) : ∀ l : List PD, RisL l → RisL (putL' l p)
  | [], _ => List.pairwise_singleton _ _
  | x :: l, h => by
    obtain ⟨h1, h2⟩ := ris_cons.1 h
    show RisL (if ltB x.1 p.1 = true then x :: putL' l p else if x.1 = p.1 then p :: l else p :: x :: l)
    split
    · next e =>
      refine ris_cons.2 ⟨fun q hq => ?_, putL_ris p l h2⟩
      rcases putL_mem p l q hq with rfl | hq
      · exact e
      · exact h1 q hq
    · next e =>
      split
      · next e2 =>
        exact ris_cons.2 ⟨fun q hq => by rw [← e2]; exact h1 q hq, h2⟩
      · next e2 =>
        have e3 : ltB p.1 x.1 = true := by
          rcases ltB_tri x.1 p.1 with h | h | h
          · exact absurd h e
          · exact absurd h e2
          · exact h
        refine ris_cons.2 ⟨fun q hq => ?_, h⟩
        rcases List.mem_cons.1 hq with rfl | hq
        · exact e3
        · exact ltB_trans e3 (h1 q hq)
theorem putR_ris {rs : List PR} (r : PR) (h : Rises (rs.map PR.k)) : Rises ((putR rs r (lbN (rs.map PR.k) r.k)).map PR.k) := by
  have h1 : RisL (rs.map pd) := by show Rises ((rs.map pd).map Prod.fst); rw [map_pd_fst]; exact h
  have h2 := putL_ris (pd r) _ h1
  rw [← putR_pd] at h2
  have h3 : Rises (((putR rs r (lbN (rs.map PR.k) r.k)).map pd).map Prod.fst) := h2
  rw [map_pd_fst] at h3
  exact h3
theorem OutP.set {F F' G : Heap} {b n c : Nat} {rs : List PR} {r : PR} {j : Nat} (h : OutP F G (.slice (some ⟨b, 0, none⟩) n c) rs) (hn : n = rs.length) (ho : Own F' (.slice (some ⟨b, 0, none⟩) n c) 75 2 n (prsV (rs.set j r))) (hk : Keeps F F' (some b)) (hr : PrG G r) : OutP F' G (.slice (some ⟨b, 0, none⟩) n c) (rs.set j r) := by
  refine ⟨by rw [List.length_set, ← hn]; exact ho, hk.ext h.base (fun k e => h.gS k e), h.gS, fun x hx => ?_⟩
  rcases List.mem_or_eq_of_mem_set hx with hx | rfl
  · exact h.ok x hx
  · exact hr
theorem apply (xs ys : List PR) (ds : List BR) (A B C : Option Addr) (ca cb cc : Nat) (F : Heap) (ha : RowAt F A (prsV xs)) (hb : RowAt F B (prsV ys)) (hd : RowAt F C (bsV ds)) (hla : xs.length ≤ 300) (hlb : ys.length ≤ 300) (hld : ds.length ≤ 300) (hca : xs.length ≤ ca) (hoa : ∀ r ∈ xs, PrG F r) (hob : ∀ r ∈ ys, PrG F r) (hod : ∀ d ∈ ds, RowAt F d.A (bytesOf d.k)) :
    FnK Try.prog 24 #[.slice A xs.length ca, .slice B ys.length cb, .slice C ds.length cc] F (fun v F' => ∃ rs, RowP F' v rs ∧ rs.map pd = applyL (xs.map pd) (ys.map pd) (ds.map BR.k) ∧ Ext F F') := by
  have hra := fun F' (hE : Ext F F') => right xs A ca F' (ha.mono hE) (by omega) hca (fun r hr => (hoa r hr).ok.1.mono hE)
  have hPe : applyL (xs.map pd) (ys.map pd) (ds.map BR.k) = if risB (xs.map PR.k) = true then (ys.map pd).foldl putL' (delsL (xs.map pd) (ds.map BR.k)) else [] := by unfold applyL risL; rw [map_pd_fst]
  have hsa := risB_iff (xs.map PR.k)
  generalize applyL (xs.map pd) (ys.map pd) (ds.map BR.k) = P at hPe ⊢
  generalize risB (xs.map PR.k) = qa at hra hPe hsa
  (refine fn_walk tab_ok Try.func24 rfl rfl rfl rfl ?_; (conv => whnf))
  refine new_step (.cells #[.slice C ds.length cc] 44) rfl fun q h0_q => ?_
  have hE_q := Ext.new h0_q (.cells #[.slice C ds.length cc] 44)
  have hB_q := Heap.put_same F q (.cells #[.slice C ds.length cc] 44)
  generalize F.put q _ = F1 at hE_q hB_q ⊢
  ((conv => whnf); repeat (first | (apply load_at; (conv => lhs; whnf); (with_reducible assumption); rfl; (conv => whnf)) | (apply load_at; (conv => lhs; rw [add_plain, add_plain]); (with_reducible assumption); rfl; (conv => whnf)) | (apply loads_at; (conv => lhs; whnf); (with_reducible assumption); rfl; (conv => whnf)) | (refine ⟨⟨by omega, by omega⟩, ?_⟩; (conv => whnf))))
  refine call_of (hra F1 hE_q) ?_
  rintro v F2 ⟨rfl, E2⟩
  have E02 := hE_q.trans E2
  have hB2 := E2 _ _ hB_q
  cases qa with
  | false =>
    rw [if_neg (by decide)] at hPe
    ((conv => whnf); repeat (first | (apply load_at; (conv => lhs; whnf); (with_reducible assumption); rfl; (conv => whnf)) | (apply load_at; (conv => lhs; rw [add_plain, add_plain]); (with_reducible assumption); rfl; (conv => whnf)) | (apply loads_at; (conv => lhs; whnf); (with_reducible assumption); rfl; (conv => whnf)) | (refine ⟨⟨by omega, by omega⟩, ?_⟩; (conv => whnf))))
    exact ⟨[], RowP.nil _, hPe.symm, E02⟩
  | true =>
  rw [if_pos rfl, ← anyD_pd] at hPe
  replace hsa := hsa.1 rfl
  clear hra
  have hwo := without 55 [.pointer (some ⟨q, 0, none⟩)] (anyD ds) xs A ca F2 (ha.mono E02) (by omega) (fun r hr => (hoa r hr).mono E02) (fun r hr G hG => goneC r ds C cc q G (hd.mono (E02.trans hG)) (by omega) (fun d hd => (hod d hd).mono (E02.trans hG)) ((hoa r hr).ok.1.mono (E02.trans hG)) (hG _ _ hB2))
  have hfl := List.length_filter_le (fun r => !anyD ds r) xs
  have hsf : Rises ((xs.filter fun r => !anyD ds r).map PR.k) := hsa.sublist (List.filter_sublist.map PR.k)
  generalize (xs.filter fun r => !anyD ds r) = res at hwo hfl hsf hPe
  ((conv => whnf); repeat (first | (apply load_at; (conv => lhs; whnf); (with_reducible assumption); rfl; (conv => whnf)) | (apply load_at; (conv => lhs; rw [add_plain, add_plain]); (with_reducible assumption); rfl; (conv => whnf)) | (apply loads_at; (conv => lhs; whnf); (with_reducible assumption); rfl; (conv => whnf)) | (refine ⟨⟨by omega, by omega⟩, ?_⟩; (conv => whnf))))
  refine call_of hwo ?_
  rintro v F3 hM
  have E23 := hM.base
  have hvr := hM.own.row
  obtain ⟨A3, c3, rfl, hc3, _⟩ := hvr
  refine short [0, 1, 5, 18] [.slice A xs.length ca, .slice B ys.length cb, .pointer (some ⟨q, 0, none⟩), .slice A3 res.length c3] rfl fun ρ => ?_
  ((conv => whnf); repeat (first | (apply load_at; (conv => lhs; whnf); (with_reducible assumption); rfl; (conv => whnf)) | (apply load_at; (conv => lhs; rw [add_plain, add_plain]); (with_reducible assumption); rfl; (conv => whnf)) | (apply loads_at; (conv => lhs; whnf); (with_reducible assumption); rfl; (conv => whnf)) | (refine ⟨⟨by omega, by omega⟩, ?_⟩; (conv => whnf))))
  refine loop_slots [1, 7, 20, 21] (fun m vs F' => ∃ (j : Nat) (rs : List PR) (G : Heap), j + m = res.length ∧ vs = [.slice B ys.length cb, .slice A3 res.length c3, .int .i64 (res.length : Int), .int .i64 (j : Int)] ∧ OutP F' G (.slice A3 res.length c3) rs ∧ Ext F2 G ∧ rs.length = res.length ∧ rs.map pd = res.map pd) res.length ⟨0, res, F2, by omega, rfl, hM, Ext.refl _, rfl, rfl⟩ ?_
  clear hM
  rintro m vs F4 ρ ⟨j, rs, G, hm, rfl, hM, hG, hrl, hpd⟩
  ((conv => whnf); repeat (first | (apply load_at; (conv => lhs; whnf); (with_reducible assumption); rfl; (conv => whnf)) | (apply load_at; (conv => lhs; rw [add_plain, add_plain]); (with_reducible assumption); rfl; (conv => whnf)) | (apply loads_at; (conv => lhs; whnf); (with_reducible assumption); rfl; (conv => whnf)) | (refine ⟨⟨by omega, by omega⟩, ?_⟩; (conv => whnf))))
  refine cond_split (fun h => ?_) (fun h => ?_)
  · have hj : j < rs.length := by have := of_decide_eq_true h; omega
    have hws : IntKind.i64.wrap ((j : Int) + 1) = ((j + 1 : Nat) : Int) := wrap_succ (by omega)
    obtain ⟨b, rfl⟩ : ∃ b, A3 = some ⟨b, 0, none⟩ := by
      rcases hM.own.2 with ⟨_, h0⟩ | ⟨b, c7, cs, h0, _⟩
      · omega
      · injection h0 with h1
        exact ⟨b, h1⟩
    have hrow : RowAt F4 (some ⟨b, 0, none⟩) (prsV rs) := by
      obtain ⟨A5, c5, h5, _, h6⟩ := hM.own.row
      injection h5 with h1
      rw [h1]
      exact h6
    have hL := fun (K : Value → Prop) => pr_load (K := K) hrow hj
    have hg := hM.ok _ (List.getElem_mem hj)
    have hset : ∀ r' : PR, r'.k = rs[j].k → r'.v = rs[j].v → (rs.set j r').map pd = rs.map pd := fun r' h1 h2 => by
      rw [List.map_set, show pd r' = pd rs[j] by unfold pd; rw [h1, h2]]
      exact List.ext_getElem? fun n => by
        rw [List.getElem?_set]
        split
        · next e =>
          subst e
          rw [List.length_map, if_pos hj, List.getElem?_map, List.getElem?_eq_getElem hj]
          rfl
        · rfl
    generalize rs[j] = r at hL hg hset
    ((conv => whnf); repeat (first | (apply load_at; (conv => lhs; whnf); (with_reducible assumption); rfl; (conv => whnf)) | (apply load_at; (conv => lhs; rw [add_plain, add_plain]); (with_reducible assumption); rfl; (conv => whnf)) | (apply loads_at; (conv => lhs; whnf); (with_reducible assumption); rfl; (conv => whnf)) | (refine ⟨⟨by omega, by omega⟩, ?_⟩; (conv => whnf))))
    refine hL _ ?_
    ((conv => whnf); repeat (first | (apply load_at; (conv => lhs; whnf); (with_reducible assumption); rfl; (conv => whnf)) | (apply load_at; (conv => lhs; rw [add_plain, add_plain]); (with_reducible assumption); rfl; (conv => whnf)) | (apply loads_at; (conv => lhs; whnf); (with_reducible assumption); rfl; (conv => whnf)) | (refine ⟨⟨by omega, by omega⟩, ?_⟩; (conv => whnf))))
    refine call_of (own r F4 (hg.ok.mono hM.base) hg.k hg.v) ?_
    rintro v F5 ⟨r', rfl, hk', hv', hN, E5⟩
    obtain ⟨hM5, hGG⟩ := hM.more E5
    have hpg := hN.prg (G := G) (by rw [hk']; exact hg.k) (by rw [hv']; exact hg.v)
    ((conv => whnf); repeat (first | (apply load_at; (conv => lhs; whnf); (with_reducible assumption); rfl; (conv => whnf)) | (apply load_at; (conv => lhs; rw [add_plain, add_plain]); (with_reducible assumption); rfl; (conv => whnf)) | (apply loads_at; (conv => lhs; whnf); (with_reducible assumption); rfl; (conv => whnf)) | (refine ⟨⟨by omega, by omega⟩, ?_⟩; (conv => whnf))))
    refine own_set (by have := hM5.own; rw [hrl] at this; exact this) hj (by rw [Int.toNat_natCast, add_plain, Nat.zero_add]; rfl) r' rfl fun F6 hO6 hK6 => ?_
    have hM6 := hM5.set hrl.symm hO6 hK6 hpg
    ((conv => whnf); repeat (first | (apply load_at; (conv => lhs; whnf); (with_reducible assumption); rfl; (conv => whnf)) | (apply load_at; (conv => lhs; rw [add_plain, add_plain]); (with_reducible assumption); rfl; (conv => whnf)) | (apply loads_at; (conv => lhs; whnf); (with_reducible assumption); rfl; (conv => whnf)) | (refine ⟨⟨by omega, by omega⟩, ?_⟩; (conv => whnf))))
    refine ⟨m - 1, by omega, j + 1, rs.set j r', _, by omega, ?_, hM6, hG.trans hGG, by rw [List.length_set]; exact hrl, (hset r' hk' hv').trans hpd⟩
    rw [← hws]
    rfl
  have hks : rs.map PR.k = res.map PR.k := by rw [← map_pd_fst rs, hpd, map_pd_fst]
  rw [← hks] at hsf
  rw [← hpd] at hPe
  have hrl2 : rs.length ≤ 300 := by omega
  rw [← hrl] at hM
  refine short [1, 7] [.slice B ys.length cb, .slice A3 rs.length c3] (by rw [hrl]; rfl) fun ρ => ?_
  clear hm hks hwo
  ((conv => whnf); repeat (first | (apply load_at; (conv => lhs; whnf); (with_reducible assumption); rfl; (conv => whnf)) | (apply load_at; (conv => lhs; rw [add_plain, add_plain]); (with_reducible assumption); rfl; (conv => whnf)) | (apply loads_at; (conv => lhs; whnf); (with_reducible assumption); rfl; (conv => whnf)) | (refine ⟨⟨by omega, by omega⟩, ?_⟩; (conv => whnf))))
  refine loop_slots [7, 33, 34, 35] (fun m vs F' => ∃ (j : Nat) (rs' : List PR) (G : Heap) (S : Value), j + m = ys.length ∧ vs = [S, .slice B ys.length cb, .int .i64 (ys.length : Int), .int .i64 (j : Int)] ∧ OutP F' G S rs' ∧ Ext F2 G ∧ rs'.length ≤ 300 + j ∧ Rises (rs'.map PR.k) ∧ rs'.map pd = ((ys.take j).map pd).foldl putL' (rs.map pd)) ys.length ⟨0, rs, G, _, by omega, rfl, hM, hG, hrl2, hsf, rfl⟩ ?_
  clear hM hG
  rintro m vs F5 ρ ⟨j, rs', G5, S, hm, rfl, hM, hG, hrl5, hris, hpd5⟩
  have E5 := hG.trans hM.base
  have E05 := E02.trans E5
  obtain ⟨A5, c5, rfl, hc5, hrow5⟩ := hM.own.row
  ((conv => whnf); repeat (first | (apply load_at; (conv => lhs; whnf); (with_reducible assumption); rfl; (conv => whnf)) | (apply load_at; (conv => lhs; rw [add_plain, add_plain]); (with_reducible assumption); rfl; (conv => whnf)) | (apply loads_at; (conv => lhs; whnf); (with_reducible assumption); rfl; (conv => whnf)) | (refine ⟨⟨by omega, by omega⟩, ?_⟩; (conv => whnf))))
  refine cond_split (fun h => ?_) (fun h => ?_)
  · have hj : j < ys.length := by have := of_decide_eq_true h; omega
    obtain ⟨ad, rfl⟩ := hb.some (by rw [prsV_len]; omega)
    have hws : IntKind.i64.wrap ((j : Int) + 1) = ((j + 1 : Nat) : Int) := wrap_succ (by omega)
    have hstep : ((ys.take (j + 1)).map pd).foldl putL' (rs.map pd) = putL' (rs'.map pd) (pd ys[j]) := by
      rw [List.take_add_one, List.getElem?_eq_getElem hj, Option.toList_some, List.map_append, List.foldl_append, ← hpd5]
      rfl
    have hL := fun (K : Value → Prop) => pr_load (K := K) (hb.mono E05) hj
    have hg := (hob _ (List.getElem_mem hj)).mono E05
    generalize ys[j] = r at hstep hL hg
    obtain ⟨rk, ra, rc, rv, rb, rcc⟩ := r
    obtain ⟨⟨g1, g2, g3, g4⟩, g5, g6⟩ := hg
    ((conv => whnf); repeat (first | (apply load_at; (conv => lhs; whnf); (with_reducible assumption); rfl; (conv => whnf)) | (apply load_at; (conv => lhs; rw [add_plain, add_plain]); (with_reducible assumption); rfl; (conv => whnf)) | (apply loads_at; (conv => lhs; whnf); (with_reducible assumption); rfl; (conv => whnf)) | (refine ⟨⟨by omega, by omega⟩, ?_⟩; (conv => whnf))))
    refine hL _ ?_
    ((conv => whnf); repeat (first | (apply load_at; (conv => lhs; whnf); (with_reducible assumption); rfl; (conv => whnf)) | (apply load_at; (conv => lhs; rw [add_plain, add_plain]); (with_reducible assumption); rfl; (conv => whnf)) | (apply loads_at; (conv => lhs; whnf); (with_reducible assumption); rfl; (conv => whnf)) | (refine ⟨⟨by omega, by omega⟩, ?_⟩; (conv => whnf))))
    refine new_step (zeroP) rfl fun u h0_u => ?_
    have hU_u := Heap.put_same F5 u (zeroP)
    have hX_u := fun o => (ext_put_put h0_u (o := zeroP) (o' := o))
    generalize F5.put u (zeroP) = F6 at hU_u hX_u ⊢
    (conv => whnf)
    refine store_step u 0 _ (prC (.slice ra rk.length rc) (.slice rb rv.length rcc)) rfl hU_u rfl rfl (.inl (Nat.le_refl 0)) (os2 _ _ _ _ _ _) ?_
    have hB_u := Heap.put_same F6 u (prO (.slice ra rk.length rc) (.slice rb rv.length rcc))
    have hE_u := hX_u (prO (.slice ra rk.length rc) (.slice rb rv.length rcc))
    clear hU_u hX_u
    generalize F6.put u _ = F6 at hB_u hE_u ⊢
    have hM6 := hM.mono hE_u
    have hfd := find rs' A5 c5 rk ra rc F6 (hrow5.mono hE_u) (by omega) (fun r hr => (hM6.ok r hr).ok.1.mono hM6.base) hris (g1.mono hE_u)
    have hmem := lbN_mem (k := rk) hris
    have hlbl : lbN (rs'.map PR.k) rk ≤ rs'.length := by have := lbN_le rk (rs'.map PR.k); rw [List.length_map] at this; exact this
    have hpr := fun r' (h : PR.k r' = rk) => putR_pd r' rs'
    have hri := fun r' (h : PR.k r' = rk) => putR_ris (rs := rs') r' hris
    have hpl := fun r' (h : PR.k r' = rk) => putR_len rs' r' (lbN (rs'.map PR.k) rk) hlbl
    have hpe : ∀ r', PR.k r' = rk → putR rs' r' (lbN (rs'.map PR.k) r'.k) = if (rs'.map PR.k)[lbN (rs'.map PR.k) rk]? = some rk then rs'.set (lbN (rs'.map PR.k) rk) r' else rs'.take (lbN (rs'.map PR.k) rk) ++ r' :: rs'.drop (lbN (rs'.map PR.k) rk) := fun r' h => by unfold putR; rw [h]
    have hpr2 : ∀ r', PR.k r' = rk → PR.v r' = rv → ∀ rs'', rs'' = putR rs' r' (lbN (rs'.map PR.k) r'.k) → rs''.map pd = ((ys.take (j + 1)).map pd).foldl putL' (rs.map pd) ∧ Rises (rs''.map PR.k) ∧ rs''.length ≤ 300 + (j + 1) := fun r' h1 h2 rs'' h3 => by
      subst h3
      refine ⟨?_, hri r' h1, ?_⟩
      · rw [hpr r' h1, hstep]
        congr 1
        unfold pd
        rw [h1, h2]
      · have := hpl r' h1
        rw [h1]
        omega
    clear hpr hri hpl
    obtain ⟨is, his⟩ : ∃ is, is = decide (rk ∈ rs'.map PR.k) := ⟨_, rfl⟩
    rw [← his] at hfd
    replace his : is = decide ((rs'.map PR.k)[lbN (rs'.map PR.k) rk]? = some rk) := his.trans (decide_eq_decide.2 hmem)
    generalize hlb : lbN (rs'.map PR.k) rk = lb at hfd hlbl hpe his
    ((conv => whnf); repeat (first | (apply load_at; (conv => lhs; whnf); (with_reducible assumption); rfl; (conv => whnf)) | (apply load_at; (conv => lhs; rw [add_plain, add_plain]); (with_reducible assumption); rfl; (conv => whnf)) | (apply loads_at; (conv => lhs; whnf); (with_reducible assumption); rfl; (conv => whnf)) | (refine ⟨⟨by omega, by omega⟩, ?_⟩; (conv => whnf))))
    refine call_of hfd ?_
    rintro v F7 ⟨rfl, E7⟩
    have hB7 := E7 _ _ hB_u
    have E57 := hE_u.trans E7
    have hM7 := hM.mono E57
    refine short [7, 10, 33, 34, 35, 43] [.slice A5 rs'.length c5, .pointer (some ⟨u, 0, none⟩), .slice (some ad) ys.length cb, .int .i64 (ys.length : Int), .int .i64 (j : Int), .tuple #[.int .i64 (lb : Nat), .bool is]] rfl fun ρ => ?_
    cases is with
    | true =>
      have hin := of_decide_eq_true his.symm
      have hlt : lb < rs'.length := by have := (List.getElem?_eq_some_iff.1 hin).1; rw [List.length_map] at this; exact this
      obtain ⟨b, rfl⟩ : ∃ b, A5 = some ⟨b, 0, none⟩ := by
        rcases hM.own.2 with ⟨_, h0⟩ | ⟨b, c7, cs, h0, _⟩
        · omega
        · injection h0 with h1
          exact ⟨b, h1⟩
      ((conv => whnf); repeat (first | (apply load_at; (conv => lhs; whnf); (with_reducible assumption); rfl; (conv => whnf)) | (apply load_at; (conv => lhs; rw [add_plain, add_plain]); (with_reducible assumption); rfl; (conv => whnf)) | (apply loads_at; (conv => lhs; whnf); (with_reducible assumption); rfl; (conv => whnf)) | (refine ⟨⟨by omega, by omega⟩, ?_⟩; (conv => whnf))))
      refine call_of (own ⟨rk, ra, rc, rv, rb, rcc⟩ F7 ⟨g1.mono E57, g2.mono E57, g3, g4⟩ g5 g6) ?_
      rintro v F8 ⟨r', rfl, hk', hv', hN, E8⟩
      obtain ⟨hM8, hGG⟩ := hM7.more E8
      have hpg := hN.prg (G := G5) (by rw [hk']; exact g5) (by rw [hv']; exact g6)
      have hall := hpr2 r' hk' hv' (rs'.set lb r') (by rw [hpe r' hk', if_pos hin])
      ((conv => whnf); repeat (first | (apply load_at; (conv => lhs; whnf); (with_reducible assumption); rfl; (conv => whnf)) | (apply load_at; (conv => lhs; rw [add_plain, add_plain]); (with_reducible assumption); rfl; (conv => whnf)) | (apply loads_at; (conv => lhs; whnf); (with_reducible assumption); rfl; (conv => whnf)) | (refine ⟨⟨by omega, by omega⟩, ?_⟩; (conv => whnf))))
      refine own_set hM8.own hlt (by rw [Int.toNat_natCast, add_plain, Nat.zero_add]; rfl) r' rfl fun F9 hO9 hK9 => ?_
      have hM9 := hM8.set rfl hO9 hK9 hpg
      ((conv => whnf); repeat (first | (apply load_at; (conv => lhs; whnf); (with_reducible assumption); rfl; (conv => whnf)) | (apply load_at; (conv => lhs; rw [add_plain, add_plain]); (with_reducible assumption); rfl; (conv => whnf)) | (apply loads_at; (conv => lhs; whnf); (with_reducible assumption); rfl; (conv => whnf)) | (refine ⟨⟨by omega, by omega⟩, ?_⟩; (conv => whnf))))
      refine ⟨m - 1, by omega, j + 1, rs'.set lb r', _, _, by omega, ?_, hM9, hG.trans hGG, hall.2.2, hall.2.1, hall.1⟩
      rw [← hws]
      rfl
    | false =>
      have hin := of_decide_eq_false his.symm
      ((conv => whnf); repeat (first | (apply load_at; (conv => lhs; whnf); (with_reducible assumption); rfl; (conv => whnf)) | (apply load_at; (conv => lhs; rw [add_plain, add_plain]); (with_reducible assumption); rfl; (conv => whnf)) | (apply loads_at; (conv => lhs; whnf); (with_reducible assumption); rfl; (conv => whnf)) | (refine ⟨⟨by omega, by omega⟩, ?_⟩; (conv => whnf))))
      refine call_of (own ⟨rk, ra, rc, rv, rb, rcc⟩ F7 ⟨g1.mono E57, g2.mono E57, g3, g4⟩ g5 g6) ?_
      rintro v F8 ⟨r', rfl, hk', hv', hN, E8⟩
      obtain ⟨hM8, hGG⟩ := hM7.more E8
      have hpg := hN.prg (G := G5) (by rw [hk']; exact g5) (by rw [hv']; exact g6)
      have hall := hpr2 r' hk' hv' (rs'.take lb ++ r' :: rs'.drop lb) (by rw [hpe r' hk', if_neg hin])
      ((conv => whnf); repeat (first | (apply load_at; (conv => lhs; whnf); (with_reducible assumption); rfl; (conv => whnf)) | (apply load_at; (conv => lhs; rw [add_plain, add_plain]); (with_reducible assumption); rfl; (conv => whnf)) | (apply loads_at; (conv => lhs; whnf); (with_reducible assumption); rfl; (conv => whnf)) | (refine ⟨⟨by omega, by omega⟩, ?_⟩; (conv => whnf))))
      refine new_step (.cells (prA r') 75) rfl fun g h0_g => ?_
      have hE_g := Ext.new h0_g (.cells (prA r') 75)
      have hB_g := Heap.put_same F8 g (.cells (prA r') 75)
      generalize F8.put g _ = F9 at hE_g hB_g ⊢
      have hM9 := hM8.mono hE_g
      ((conv => whnf); repeat (first | (apply load_at; (conv => lhs; whnf); (with_reducible assumption); rfl; (conv => whnf)) | (apply load_at; (conv => lhs; rw [add_plain, add_plain]); (with_reducible assumption); rfl; (conv => whnf)) | (apply loads_at; (conv => lhs; whnf); (with_reducible assumption); rfl; (conv => whnf)) | (refine ⟨⟨by omega, by omega⟩, ?_⟩; (conv => whnf))))
      refine call_of (insert hM9 lb hlbl (by omega) r' hpg g hB_g (fun e => hM8.own.there e h0_g)) ?_
      rintro v F10 hM10
      ((conv => whnf); repeat (first | (apply load_at; (conv => lhs; whnf); (with_reducible assumption); rfl; (conv => whnf)) | (apply load_at; (conv => lhs; rw [add_plain, add_plain]); (with_reducible assumption); rfl; (conv => whnf)) | (apply loads_at; (conv => lhs; whnf); (with_reducible assumption); rfl; (conv => whnf)) | (refine ⟨⟨by omega, by omega⟩, ?_⟩; (conv => whnf))))
      refine ⟨m - 1, by omega, j + 1, rs'.take lb ++ r' :: rs'.drop lb, _, v, by omega, ?_, hM10, hG.trans hGG, hall.2.2, hall.2.1, hall.1⟩
      rw [← hws]
      rfl
  · have hj : j = ys.length := by have := of_decide_eq_false h; omega
    rw [hj, List.take_length, ← hPe] at hpd5
    ((conv => whnf); repeat (first | (apply load_at; (conv => lhs; whnf); (with_reducible assumption); rfl; (conv => whnf)) | (apply load_at; (conv => lhs; rw [add_plain, add_plain]); (with_reducible assumption); rfl; (conv => whnf)) | (apply loads_at; (conv => lhs; whnf); (with_reducible assumption); rfl; (conv => whnf)) | (refine ⟨⟨by omega, by omega⟩, ?_⟩; (conv => whnf))))
    exact ⟨rs', hM.row, hpd5, E05⟩
end Go.Proofs.Ytlkdbmoocajjlaa.Al

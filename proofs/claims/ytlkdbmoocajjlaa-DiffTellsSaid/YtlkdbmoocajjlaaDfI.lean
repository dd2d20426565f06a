/- diff.Between, over what is known of memory. -/
import Derived.Test.YtlkdbmoocajjlaaDfH
namespace Go.Proofs.Ytlkdbmoocajjlaa.Al
open Go Go.Al Go.Proofs Go.RowKit
set_option maxHeartbeats 8000000
set_option maxRecDepth 100000
set_option linter.unusedVariables false
set_option linter.unusedSimpArgs false
theorem getL_lb {k : List UInt8} : ∀ {l : List PR} {r : PR}, l[lbN (l.map PR.k) k]? = some r → r.k = k → getL (l.map pd) k = some r.v
  | [], r, h, _ => by cases h
  | x :: l, r, h, hk => by
    rw [List.map_cons, lbN_cons] at h
    rw [List.map_cons, getL_cons]
    by_cases e : ltB x.k k = true
    · rw [if_pos e, List.getElem?_cons_succ] at h
      rw [if_neg (show ¬ (pd x).1 = k from ltB_ne e)]
      exact getL_lb h hk
    · rw [if_neg e, List.getElem?_cons_zero] at h
      obtain rfl := Option.some.inj h
      rw [if_pos (show (pd x).1 = k from hk)]
      rfl
theorem getL_none {k : List UInt8} : ∀ {l : List PR}, ¬ k ∈ l.map PR.k → getL (l.map pd) k = none
  | [], _ => rfl
  | x :: l, h => by
    rw [List.map_cons] at h
    rw [List.map_cons, getL_cons, if_neg (show ¬ (pd x).1 = k from fun e => h (by rw [← show x.k = k from e]; exact List.mem_cons_self))]
    exact getL_none fun hm => h (List.mem_cons_of_mem _ hm)
/-- A row of the call's own, of pairs whose rows stand apart from it. -/
structure OutP (F G : Heap) (S : Value) (rs : List PR) : Prop where
  own : Own F S 75 2 rs.length (prsV rs)
  base : Ext G F
  gS : ∀ k, blk S = some k → G k = none
  ok : ∀ r ∈ rs, PrG G r
theorem OutP.nil (F G : Heap) (h : Ext G F) : OutP F G (.slice none 0 0) [] := ⟨⟨rfl, .inl ⟨rfl, rfl⟩⟩, h, fun k hk => (by cases hk), fun r hr => (List.not_mem_nil hr).elim⟩
theorem OutP.mono {F F' G : Heap} {S : Value} {rs : List PR} (h : OutP F G S rs) (hE : Ext F F') : OutP F' G S rs := ⟨h.own.of_blk fun k o _ ho => hE _ _ ho, h.base.trans hE, h.gS, h.ok⟩
theorem gain_into {G F F' : Heap} (h : Ext G F) (hE : Ext F F') : Ext (gain G F F') F' := fun b o hb => by
  cases e : F b with
  | none => rw [gain_new e] at hb; exact hb
  | some u => rw [gain_old e] at hb; exact hE _ _ (h _ _ hb)
theorem OutP.more {F F' G : Heap} {S : Value} {rs : List PR} (h : OutP F G S rs) (hE : Ext F F') : OutP F' (gain G F F') S rs ∧ Ext G (gain G F F') := by
  have hg := gain_ext (F' := F') h.base
  refine ⟨⟨h.own.of_blk fun k o _ ho => hE _ _ ho, gain_into h.base hE, fun k hk => ?_, fun r hr => (h.ok r hr).mono hg⟩, hg⟩
  cases e : F k with
  | none => exact absurd e (h.own.there hk)
  | some u => rw [gain_old e]; exact h.gS k hk
theorem OutP.push {F F' G : Heap} {S S' : Value} {rs : List PR} {r : PR} (h : OutP F G S rs) (ho : Own F' S' 75 2 (rs.length + 1) (prsV rs ++ (prA r).toList)) (hk : Keeps F F' (blk S)) (hf : ∀ k, blk S' = some k → blk S = some k ∨ F k = none) (hr : PrG G r) : OutP F' G S' (rs ++ [r]) := by
  refine ⟨by rw [List.length_append, prsV_app]; exact ho, hk.ext h.base h.gS, fun k hk' => ?_, fun x hx => ?_⟩
  · rcases hf k hk' with h1 | h1
    · exact h.gS k h1
    · exact h.base.none h1
  · rcases List.mem_append.1 hx with hx | hx
    · exact h.ok x hx
    · rw [List.mem_singleton.1 hx]; exact hr
theorem OutP.row {F G : Heap} {S : Value} {rs : List PR} (h : OutP F G S rs) : RowP F S rs := ⟨by
  obtain ⟨A, c, h1, h2, h3⟩ := h.own.row
  exact ⟨A, c, h1, h2, h3⟩, fun r hr => (h.ok r hr).mono h.base⟩
theorem NewPr.prg {F F' G : Heap} {r : PR} (h : NewPr F F' r) (hk : r.k.length ≤ 200) (hv : r.v.length ≤ 400) : PrG (gain G F F') r := ⟨⟨rowAt_gain h.ok.1 h.a, rowAt_gain h.ok.2.1 h.b, h.ok.2.2⟩, hk, hv⟩
/-- .. and of rows of bytes. -/
structure OutB (F G : Heap) (S : Value) (ds : List BR) : Prop where
  own : Own F S 55 1 ds.length (bsV ds)
  base : Ext G F
  gS : ∀ k, blk S = some k → G k = none
  ok : ∀ d ∈ ds, RowAt G d.A (bytesOf d.k)
theorem OutB.nil (F G : Heap) (h : Ext G F) : OutB F G (.slice none 0 0) [] := ⟨⟨rfl, .inl ⟨rfl, rfl⟩⟩, h, fun k hk => (by cases hk), fun r hr => (List.not_mem_nil hr).elim⟩
theorem OutB.mono {F F' G : Heap} {S : Value} {ds : List BR} (h : OutB F G S ds) (hE : Ext F F') : OutB F' G S ds := ⟨h.own.of_blk fun k o _ ho => hE _ _ ho, h.base.trans hE, h.gS, h.ok⟩
theorem OutB.more {F F' G : Heap} {S : Value} {ds : List BR} (h : OutB F G S ds) (hE : Ext F F') : OutB F' (gain G F F') S ds ∧ Ext G (gain G F F') := by
  have hg := gain_ext (F' := F') h.base
  refine ⟨⟨h.own.of_blk fun k o _ ho => hE _ _ ho, gain_into h.base hE, fun k hk => ?_, fun r hr => (h.ok r hr).mono hg⟩, hg⟩
  cases e : F k with
  | none => exact absurd e (h.own.there hk)
  | some u => rw [gain_old e]; exact h.gS k hk
theorem OutB.push {F F' G : Heap} {S S' : Value} {ds : List BR} {d : BR} (h : OutB F G S ds) (ho : Own F' S' 55 1 (ds.length + 1) (bsV ds ++ [brV d])) (hk : Keeps F F' (blk S)) (hf : ∀ k, blk S' = some k → blk S = some k ∨ F k = none) (hr : RowAt G d.A (bytesOf d.k)) : OutB F' G S' (ds ++ [d]) := by
  refine ⟨by rw [List.length_append, bsV_app]; exact ho, hk.ext h.base h.gS, fun k hk' => ?_, fun x hx => ?_⟩
  · rcases hf k hk' with h1 | h1
    · exact h.gS k h1
    · exact h.base.none h1
  · rcases List.mem_append.1 hx with hx | hx
    · exact h.ok x hx
    · rw [List.mem_singleton.1 hx]; exact hr
theorem OutB.row {F G : Heap} {S : Value} {ds : List BR} (h : OutB F G S ds) : RowB F S ds := ⟨by
  obtain ⟨A, c, h1, h2, h3⟩ := h.own.row
  exact ⟨A, c, h1, h2, h3⟩, fun r hr => (h.ok r hr).mono h.base⟩
theorem between (xs ys : List PR) (A B : Option Addr) (ca cb : Nat) (F : Heap) (ha : RowAt F A (prsV xs)) (hb : RowAt F B (prsV ys)) (hla : xs.length ≤ 1000) (hlb : ys.length ≤ 1000) (hca : xs.length ≤ ca) (hcb : ys.length ≤ cb) (hoa : ∀ r ∈ xs, PrG F r) (hob : ∀ r ∈ ys, PrG F r) :
    FnK Try.prog 20 #[.slice A xs.length ca, .slice B ys.length cb] F (fun v F' => Btw F F' v (betweenP (xs.map pd) (ys.map pd)) (betweenD (xs.map pd) (ys.map pd))) := by
  have hra := right xs A ca F ha (by omega) hca (fun r hr => (hoa r hr).ok.1)
  have hrb := fun F' (hE : Ext F F') => right ys B cb F' (hb.mono hE) (by omega) hcb (fun r hr => (hob r hr).ok.1.mono hE)
  have hPe : betweenP (xs.map pd) (ys.map pd) = if (risB (xs.map PR.k) && risB (ys.map PR.k)) = true then (ys.map pd).filter (newP (xs.map pd)) else [] := by unfold betweenP risL; rw [map_pd_fst, map_pd_fst]
  have hDe : betweenD (xs.map pd) (ys.map pd) = if (risB (xs.map PR.k) && risB (ys.map PR.k)) = true then ((xs.map pd).filter (goneP (ys.map pd))).map Prod.fst else [] := by unfold betweenD risL; rw [map_pd_fst, map_pd_fst]
  generalize betweenP (xs.map pd) (ys.map pd) = P at hPe ⊢
  generalize betweenD (xs.map pd) (ys.map pd) = D at hDe ⊢
  have hsa := risB_iff (xs.map PR.k)
  have hsb := risB_iff (ys.map PR.k)
  generalize risB (xs.map PR.k) = qa at hra hPe hDe hsa
  generalize risB (ys.map PR.k) = qb at hrb hPe hDe hsb
  have bad : ∀ F', Ext F F' → (qa && qb) = false → Btw F F' (.tuple #[.slice none 0 0, .slice none 0 0]) P D := fun F' hE h => by
    rw [h, if_neg (by decide)] at hPe hDe
    exact ⟨[], [], _, _, rfl, RowP.nil _, hPe.symm, RowB.nil _, hDe.symm, hE⟩
  (refine fn_walk tab_ok Try.func20 rfl rfl rfl rfl ?_; (conv => whnf))
  refine call_of hra ?_
  rintro v F1 ⟨rfl, E1⟩
  cases qa with
  | false =>
    ((conv => whnf); repeat (first | (apply load_at; (conv => lhs; whnf); (with_reducible assumption); rfl; (conv => whnf)) | (apply load_at; (conv => lhs; rw [add_plain, add_plain]); (with_reducible assumption); rfl; (conv => whnf)) | (apply loads_at; (conv => lhs; whnf); (with_reducible assumption); rfl; (conv => whnf)) | (refine ⟨⟨by omega, by omega⟩, ?_⟩; (conv => whnf))))
    exact bad _ E1 rfl
  | true =>
  ((conv => whnf); repeat (first | (apply load_at; (conv => lhs; whnf); (with_reducible assumption); rfl; (conv => whnf)) | (apply load_at; (conv => lhs; rw [add_plain, add_plain]); (with_reducible assumption); rfl; (conv => whnf)) | (apply loads_at; (conv => lhs; whnf); (with_reducible assumption); rfl; (conv => whnf)) | (refine ⟨⟨by omega, by omega⟩, ?_⟩; (conv => whnf))))
  refine call_of (hrb F1 E1) ?_
  rintro v F2 ⟨rfl, E2⟩
  cases qb with
  | false =>
    ((conv => whnf); repeat (first | (apply load_at; (conv => lhs; whnf); (with_reducible assumption); rfl; (conv => whnf)) | (apply load_at; (conv => lhs; rw [add_plain, add_plain]); (with_reducible assumption); rfl; (conv => whnf)) | (apply loads_at; (conv => lhs; whnf); (with_reducible assumption); rfl; (conv => whnf)) | (refine ⟨⟨by omega, by omega⟩, ?_⟩; (conv => whnf))))
    exact bad _ (E1.trans E2) rfl
  | true =>
  rw [if_pos (show (true && true) = true from rfl)] at hPe hDe
  replace hsa := hsa.1 rfl
  replace hsb := hsb.1 rfl
  clear bad hra hrb
  have E02 := E1.trans E2
  ((conv => whnf); repeat (first | (apply load_at; (conv => lhs; whnf); (with_reducible assumption); rfl; (conv => whnf)) | (apply load_at; (conv => lhs; rw [add_plain, add_plain]); (with_reducible assumption); rfl; (conv => whnf)) | (apply loads_at; (conv => lhs; whnf); (with_reducible assumption); rfl; (conv => whnf)) | (refine ⟨⟨by omega, by omega⟩, ?_⟩; (conv => whnf))))
  refine loop_slots [0, 1, 6, 7, 24, 25, 26] (fun m vs F' => ∃ (j : Nat) (acc : List PR) (S : Value) (G : Heap), j + m = ys.length ∧ vs = [.slice A xs.length ca, .slice B ys.length cb, S, .slice none 0 0, .slice B ys.length cb, .int .i64 (ys.length : Int), .int .i64 (j : Int)] ∧ OutP F' G S acc ∧ Ext F G ∧ acc.map pd = ((ys.take j).map pd).filter (newP (xs.map pd))) ys.length ⟨0, [], .slice none 0 0, F, by omega, rfl, OutP.nil _ _ E02, Ext.refl _, rfl⟩ ?_
  rintro m vs F5 ρ ⟨j, acc, S, G, hm, rfl, hM, hG, hacc⟩
  have E5 := hG.trans hM.base
  ((conv => whnf); repeat (first | (apply load_at; (conv => lhs; whnf); (with_reducible assumption); rfl; (conv => whnf)) | (apply load_at; (conv => lhs; rw [add_plain, add_plain]); (with_reducible assumption); rfl; (conv => whnf)) | (apply loads_at; (conv => lhs; whnf); (with_reducible assumption); rfl; (conv => whnf)) | (refine ⟨⟨by omega, by omega⟩, ?_⟩; (conv => whnf))))
  refine cond_split (fun h => ?_) (fun h => ?_)
  · have hj : j < ys.length := by have := of_decide_eq_true h; omega
    obtain ⟨ad, rfl⟩ := hb.some (by rw [prsV_len]; omega)
    have hws : IntKind.i64.wrap ((j : Int) + 1) = ((j + 1 : Nat) : Int) := wrap_succ (by omega)
    have hal : acc.length ≤ 100000 := by
      have h1 := List.length_filter_le (newP (xs.map pd)) ((ys.take j).map pd)
      rw [← hacc, List.length_map, List.length_map, List.length_take] at h1
      omega
    have hstep : ((ys.take (j + 1)).map pd).filter (newP (xs.map pd)) = acc.map pd ++ if newP (xs.map pd) (pd ys[j]) = true then [pd ys[j]] else [] := by
      rw [List.take_add_one, List.getElem?_eq_getElem hj, Option.toList_some, List.map_append, List.filter_append, ← hacc]
      congr 1
      rw [List.map_cons, List.map_nil, List.filter_cons, List.filter_nil]
    have hL := fun (K : Value → Prop) => pr_load (K := K) (hb.mono E5) hj
    have hg := (hob _ (List.getElem_mem hj)).mono E5
    have hnp : newP (xs.map pd) (pd ys[j]) = !(getL (xs.map pd) ys[j].k == some ys[j].v) := rfl
    generalize newP (xs.map pd) (pd ys[j]) = z at hstep hnp
    generalize ys[j] = r at hstep hL hg hnp
    obtain ⟨rk, ra, rc, rv, rb, rcc⟩ := r
    obtain ⟨⟨g1, g2, g3, g4⟩, g5, g6⟩ := hg
    replace hnp : z = !(getL (xs.map pd) rk == some rv) := hnp
    ((conv => whnf); repeat (first | (apply load_at; (conv => lhs; whnf); (with_reducible assumption); rfl; (conv => whnf)) | (apply load_at; (conv => lhs; rw [add_plain, add_plain]); (with_reducible assumption); rfl; (conv => whnf)) | (apply loads_at; (conv => lhs; whnf); (with_reducible assumption); rfl; (conv => whnf)) | (refine ⟨⟨by omega, by omega⟩, ?_⟩; (conv => whnf))))
    refine hL _ ?_
    ((conv => whnf); repeat (first | (apply load_at; (conv => lhs; whnf); (with_reducible assumption); rfl; (conv => whnf)) | (apply load_at; (conv => lhs; rw [add_plain, add_plain]); (with_reducible assumption); rfl; (conv => whnf)) | (apply loads_at; (conv => lhs; whnf); (with_reducible assumption); rfl; (conv => whnf)) | (refine ⟨⟨by omega, by omega⟩, ?_⟩; (conv => whnf))))
    refine new_step (zeroP) rfl fun u h0_u => ?_
    have hU_u := Heap.put_same F5 u (zeroP)
    have hX_u := fun o => (ext_put_put h0_u (o := zeroP) (o' := o))
    generalize F5.put u (zeroP) = F6 at hU_u hX_u ⊢
    (conv => whnf)
    refine store_step u 0 _ (prC (.slice ra rk.length rc) (.slice rb rv.length rcc)) rfl hU_u rfl rfl (.inl (Nat.le_refl 0)) (os2 _ _ _ _ _ _) ?_
    have hB_u := Heap.put_same F6 u (prO (.slice ra rk.length rc) (.slice rb rv.length rcc))
    have hE_u := hX_u (prO (.slice ra rk.length rc) (.slice rb rv.length rcc))
    clear hU_u hX_u
    generalize F6.put u _ = F6 at hB_u hE_u ⊢
    have E6 := E5.trans hE_u
    have hfd := find xs A ca rk ra rc F6 (ha.mono E6) (by omega) (fun r hr => (hoa r hr).ok.1.mono E6) hsa (g1.mono hE_u)
    have hmem := lbN_mem (k := rk) hsa
    have hgl := fun r h1 h2 => getL_lb (k := rk) (l := xs) (r := r) h1 h2
    have hgn := getL_none (k := rk) (l := xs)
    generalize lbN (xs.map PR.k) rk = lb at hfd hmem hgl
    generalize getL (xs.map pd) rk = gl at hnp hgl hgn
    obtain ⟨is, his⟩ : ∃ is, is = decide (rk ∈ xs.map PR.k) := ⟨_, rfl⟩
    rw [← his] at hfd
    ((conv => whnf); repeat (first | (apply load_at; (conv => lhs; whnf); (with_reducible assumption); rfl; (conv => whnf)) | (apply load_at; (conv => lhs; rw [add_plain, add_plain]); (with_reducible assumption); rfl; (conv => whnf)) | (apply loads_at; (conv => lhs; whnf); (with_reducible assumption); rfl; (conv => whnf)) | (refine ⟨⟨by omega, by omega⟩, ?_⟩; (conv => whnf))))
    refine call_of hfd ?_
    rintro v F7 ⟨rfl, E7⟩
    have hB7 := E7 _ _ hB_u
    have E57 := hE_u.trans E7
    have E07 := E5.trans E57
    have hM7 := hM.mono E57
    refine short [0, 1, 6, 7, 9, 24, 25, 26, 34] [.slice A xs.length ca, .slice (some ad) ys.length cb, S, .slice none 0 0, .pointer (some ⟨u, 0, none⟩), .slice (some ad) ys.length cb, .int .i64 (ys.length : Int), .int .i64 (j : Int), .tuple #[.int .i64 (lb : Nat), .bool is]] rfl fun ρ => ?_
    ((conv => whnf); repeat (first | (apply load_at; (conv => lhs; whnf); (with_reducible assumption); rfl; (conv => whnf)) | (apply load_at; (conv => lhs; rw [add_plain, add_plain]); (with_reducible assumption); rfl; (conv => whnf)) | (apply loads_at; (conv => lhs; whnf); (with_reducible assumption); rfl; (conv => whnf)) | (refine ⟨⟨by omega, by omega⟩, ?_⟩; (conv => whnf))))
    refine draw_cut (fun env' F' => [0, 1, 6, 7, 9, 24, 25, 26, 49].map env' = [.slice A xs.length ca, .slice (some ad) ys.length cb, S, .slice none 0 0, .pointer (some ⟨u, 0, none⟩), .slice (some ad) ys.length cb, .int .i64 (ys.length : Int), .int .i64 (j : Int), .bool z] ∧ F' = F7) (fun K hK => ?_) ?_
    · refine draw_walk tab_ok (by kernel_rfl) [0, 1, 2, 3, 4, 5, 6, 7, 8, 9, 10, 11, 12] (by kernel_rfl) ?_
      cases is with
      | false =>
        have hne := of_decide_eq_false his.symm
        have hz : z = true := by rw [hnp, hgn hne]; rfl
        rw [hz] at hK
        ((conv => whnf); repeat (first | (apply load_at; (conv => lhs; whnf); (with_reducible assumption); rfl; (conv => whnf)) | (apply load_at; (conv => lhs; rw [add_plain, add_plain]); (with_reducible assumption); rfl; (conv => whnf)) | (apply loads_at; (conv => lhs; whnf); (with_reducible assumption); rfl; (conv => whnf)) | (refine ⟨⟨by omega, by omega⟩, ?_⟩; (conv => whnf))))
        exact hK _ _ ⟨rfl, rfl⟩
      | true =>
        have hin := of_decide_eq_true his.symm
        have hlk := hmem.1 hin
        rw [List.getElem?_map] at hlk
        obtain ⟨x, hx, hxk⟩ := Option.map_eq_some_iff.1 hlk
        have hlt : lb < xs.length := (List.getElem?_eq_some_iff.1 hx).1
        have hxe : xs[lb] = x := (List.getElem?_eq_some_iff.1 hx).2
        have hz : z = !(x.v == rv) := by rw [hnp, hgl x hx hxk]; congr 1
        obtain ⟨bd, rfl⟩ := ha.some (by rw [prsV_len]; omega)
        have c1 := pr_cell (ha.mono E07) hlt (i := 1) rfl
        rw [hxe] at c1
        have hxo := (hoa x (List.mem_of_getElem? hx)).ok.2.1.mono E07
        have hbe := bytesEqual x.v rv x.B rb x.cc rcc F7 hxo (g2.mono E57)
        generalize (x.v == rv) = q at hbe hz
        rw [hz] at hK
        ((conv => whnf); repeat (first | (apply load_at; (conv => lhs; whnf); (with_reducible assumption); rfl; (conv => whnf)) | (apply load_at; (conv => lhs; rw [add_plain, add_plain]); (with_reducible assumption); rfl; (conv => whnf)) | (apply loads_at; (conv => lhs; whnf); (with_reducible assumption); rfl; (conv => whnf)) | (refine ⟨⟨by omega, by omega⟩, ?_⟩; (conv => whnf))))
        refine load_step c1 ?_
        ((conv => whnf); repeat (first | (apply load_at; (conv => lhs; whnf); (with_reducible assumption); rfl; (conv => whnf)) | (apply load_at; (conv => lhs; rw [add_plain, add_plain]); (with_reducible assumption); rfl; (conv => whnf)) | (apply loads_at; (conv => lhs; whnf); (with_reducible assumption); rfl; (conv => whnf)) | (refine ⟨⟨by omega, by omega⟩, ?_⟩; (conv => whnf))))
        refine call_of hbe ?_
        rintro v F8 ⟨rfl, rfl⟩
        ((conv => whnf); repeat (first | (apply load_at; (conv => lhs; whnf); (with_reducible assumption); rfl; (conv => whnf)) | (apply load_at; (conv => lhs; rw [add_plain, add_plain]); (with_reducible assumption); rfl; (conv => whnf)) | (apply loads_at; (conv => lhs; whnf); (with_reducible assumption); rfl; (conv => whnf)) | (refine ⟨⟨by omega, by omega⟩, ?_⟩; (conv => whnf))))
        exact hK _ _ ⟨rfl, rfl⟩
    · rintro env' F8 ⟨he, rfl⟩
      refine short [0, 1, 6, 7, 9, 24, 25, 26, 49] [.slice A xs.length ca, .slice (some ad) ys.length cb, S, .slice none 0 0, .pointer (some ⟨u, 0, none⟩), .slice (some ad) ys.length cb, .int .i64 (ys.length : Int), .int .i64 (j : Int), .bool z] he fun ρ => ?_
      ((conv => whnf); repeat (first | (apply load_at; (conv => lhs; whnf); (with_reducible assumption); rfl; (conv => whnf)) | (apply load_at; (conv => lhs; rw [add_plain, add_plain]); (with_reducible assumption); rfl; (conv => whnf)) | (apply loads_at; (conv => lhs; whnf); (with_reducible assumption); rfl; (conv => whnf)) | (refine ⟨⟨by omega, by omega⟩, ?_⟩; (conv => whnf))))
      refine cond_split (fun h => ?_) (fun h => ?_)
      · have e : z = true := h
        rw [if_pos e] at hstep
        refine short [0, 1, 6, 7, 9, 24, 25, 26] [.slice A xs.length ca, .slice (some ad) ys.length cb, S, .slice none 0 0, .pointer (some ⟨u, 0, none⟩), .slice (some ad) ys.length cb, .int .i64 (ys.length : Int), .int .i64 (j : Int)] rfl fun ρ => ?_
        ((conv => whnf); repeat (first | (apply load_at; (conv => lhs; whnf); (with_reducible assumption); rfl; (conv => whnf)) | (apply load_at; (conv => lhs; rw [add_plain, add_plain]); (with_reducible assumption); rfl; (conv => whnf)) | (apply loads_at; (conv => lhs; whnf); (with_reducible assumption); rfl; (conv => whnf)) | (refine ⟨⟨by omega, by omega⟩, ?_⟩; (conv => whnf))))
        refine call_of (own ⟨rk, ra, rc, rv, rb, rcc⟩ F8 ⟨g1.mono E57, g2.mono E57, g3, g4⟩ g5 g6) ?_
        rintro v F9 ⟨r', rfl, hk', hv', hN, E9⟩
        obtain ⟨hM9, hGG⟩ := hM7.more E9
        have hpg := hN.prg (G := G) (by rw [hk']; exact g5) (by rw [hv']; exact g6)
        ((conv => whnf); repeat (first | (apply load_at; (conv => lhs; whnf); (with_reducible assumption); rfl; (conv => whnf)) | (apply load_at; (conv => lhs; rw [add_plain, add_plain]); (with_reducible assumption); rfl; (conv => whnf)) | (apply loads_at; (conv => lhs; whnf); (with_reducible assumption); rfl; (conv => whnf)) | (refine ⟨⟨by omega, by omega⟩, ?_⟩; (conv => whnf))))
        refine new_step (.cells (prA r') 75) rfl fun g h0_g => ?_
        have hE_g := Ext.new h0_g (.cells (prA r') 75)
        have hB_g := Heap.put_same F9 g (.cells (prA r') 75)
        generalize F9.put g _ = F10 at hE_g hB_g ⊢
        have hM10 := hM9.mono hE_g
        ((conv => whnf); repeat (first | (apply load_at; (conv => lhs; whnf); (with_reducible assumption); rfl; (conv => whnf)) | (apply load_at; (conv => lhs; rw [add_plain, add_plain]); (with_reducible assumption); rfl; (conv => whnf)) | (apply loads_at; (conv => lhs; whnf); (with_reducible assumption); rfl; (conv => whnf)) | (refine ⟨⟨by omega, by omega⟩, ?_⟩; (conv => whnf))))
        refine append_own tab_ok (s := S) (n := acc.length) (xs := prsV acc) (m := 1) (ys := (prA r').toList) (y := .slice (some ⟨g, 0, none⟩) 1 1) rfl rfl rfl rfl rfl ⟨_, rfl, fun k h => by cases h⟩ ⟨_, rfl, rfl⟩ (by decide) hM10.own ⟨rfl, .inl ⟨_, _, rfl, row_blk hB_g⟩⟩ (pr_one _) (by show 2 * (acc.length + 1) * 48 ≤ _; omega) fun S11 F11 hO11 hK11 hf11 => ?_
        have hM11 := hM10.push hO11 hK11 hf11 hpg
        ((conv => whnf); repeat (first | (apply load_at; (conv => lhs; whnf); (with_reducible assumption); rfl; (conv => whnf)) | (apply load_at; (conv => lhs; rw [add_plain, add_plain]); (with_reducible assumption); rfl; (conv => whnf)) | (apply loads_at; (conv => lhs; whnf); (with_reducible assumption); rfl; (conv => whnf)) | (refine ⟨⟨by omega, by omega⟩, ?_⟩; (conv => whnf))))
        refine ⟨m - 1, by omega, j + 1, acc ++ [r'], S11, _, by omega, ?_, hM11, hG.trans hGG, ?_⟩
        · rw [← hws]
          rfl
        · rw [hstep, List.map_append]
          show _ ++ [pd r'] = _ ++ [(rk, rv)]
          rw [show pd r' = (rk, rv) by unfold pd; rw [hk', hv']]
      · have e : ¬ z = true := by rw [show z = false from h]; decide
        rw [if_neg e, List.append_nil] at hstep
        ((conv => whnf); repeat (first | (apply load_at; (conv => lhs; whnf); (with_reducible assumption); rfl; (conv => whnf)) | (apply load_at; (conv => lhs; rw [add_plain, add_plain]); (with_reducible assumption); rfl; (conv => whnf)) | (apply loads_at; (conv => lhs; whnf); (with_reducible assumption); rfl; (conv => whnf)) | (refine ⟨⟨by omega, by omega⟩, ?_⟩; (conv => whnf))))
        refine ⟨m - 1, by omega, j + 1, acc, S, G, by omega, ?_, hM7, hG, hstep.symm⟩
        rw [← hws]
        rfl
  · have hj : j = ys.length := by have := of_decide_eq_false h; omega
    rw [hj, List.take_length, ← hPe] at hacc
    clear hm hj
    have hps := hM.row
    clear hM hG
    refine short [0, 1, 6, 7] [.slice A xs.length ca, .slice B ys.length cb, S, .slice none 0 0] rfl fun ρ => ?_
    obtain ⟨A1, c1, rfl, _⟩ := hps.out
    ((conv => whnf); repeat (first | (apply load_at; (conv => lhs; whnf); (with_reducible assumption); rfl; (conv => whnf)) | (apply load_at; (conv => lhs; rw [add_plain, add_plain]); (with_reducible assumption); rfl; (conv => whnf)) | (apply loads_at; (conv => lhs; whnf); (with_reducible assumption); rfl; (conv => whnf)) | (refine ⟨⟨by omega, by omega⟩, ?_⟩; (conv => whnf))))
    refine loop_slots [1, 6, 7, 56, 57, 58] (fun m vs F' => ∃ (j : Nat) (ds : List BR) (S : Value) (G : Heap), j + m = xs.length ∧ vs = [.slice B ys.length cb, .slice A1 acc.length c1, S, .slice A xs.length ca, .int .i64 (xs.length : Int), .int .i64 (j : Int)] ∧ OutB F' G S ds ∧ Ext F5 G ∧ ds.map BR.k = (((xs.take j).map pd).filter (goneP (ys.map pd))).map Prod.fst) xs.length ⟨0, [], .slice none 0 0, F5, by omega, rfl, OutB.nil _ _ (Ext.refl _), Ext.refl _, rfl⟩ ?_
    rintro m vs F6 ρ ⟨j, ds, S, G, hm, rfl, hM, hG, hds⟩
    have E56 := hG.trans hM.base
    have E6 := E5.trans E56
    ((conv => whnf); repeat (first | (apply load_at; (conv => lhs; whnf); (with_reducible assumption); rfl; (conv => whnf)) | (apply load_at; (conv => lhs; rw [add_plain, add_plain]); (with_reducible assumption); rfl; (conv => whnf)) | (apply loads_at; (conv => lhs; whnf); (with_reducible assumption); rfl; (conv => whnf)) | (refine ⟨⟨by omega, by omega⟩, ?_⟩; (conv => whnf))))
    refine cond_split (fun h => ?_) (fun h => ?_)
    · have hj : j < xs.length := by have := of_decide_eq_true h; omega
      obtain ⟨ad, rfl⟩ := ha.some (by rw [prsV_len]; omega)
      have hws : IntKind.i64.wrap ((j : Int) + 1) = ((j + 1 : Nat) : Int) := wrap_succ (by omega)
      have hdl : ds.length ≤ 100000 := by
        have h1 := List.length_filter_le (goneP (ys.map pd)) ((xs.take j).map pd)
        have h2 := congrArg List.length hds
        rw [List.length_map, List.length_map] at h2
        rw [List.length_map, List.length_take] at h1
        omega
      have hstep : (((xs.take (j + 1)).map pd).filter (goneP (ys.map pd))).map Prod.fst = ds.map BR.k ++ if goneP (ys.map pd) (pd xs[j]) = true then [xs[j].k] else [] := by
        rw [List.take_add_one, List.getElem?_eq_getElem hj, Option.toList_some, List.map_append, List.filter_append, List.map_append, ← hds]
        congr 1
        rw [List.map_cons, List.map_nil, List.filter_cons, List.filter_nil]
        split <;> rfl
      have hL := fun (K : Value → Prop) => pr_load (K := K) (ha.mono E6) hj
      have hg := (hoa _ (List.getElem_mem hj)).mono E6
      have hnp : goneP (ys.map pd) (pd xs[j]) = (getL (ys.map pd) xs[j].k).isNone := rfl
      generalize goneP (ys.map pd) (pd xs[j]) = z at hstep hnp
      generalize xs[j] = r at hstep hL hg hnp
      obtain ⟨rk, ra, rc, rv, rb, rcc⟩ := r
      obtain ⟨⟨g1, g2, g3, g4⟩, g5, g6⟩ := hg
      replace hnp : z = (getL (ys.map pd) rk).isNone := hnp
      replace g5 : rk.length ≤ 200 := g5
      ((conv => whnf); repeat (first | (apply load_at; (conv => lhs; whnf); (with_reducible assumption); rfl; (conv => whnf)) | (apply load_at; (conv => lhs; rw [add_plain, add_plain]); (with_reducible assumption); rfl; (conv => whnf)) | (apply loads_at; (conv => lhs; whnf); (with_reducible assumption); rfl; (conv => whnf)) | (refine ⟨⟨by omega, by omega⟩, ?_⟩; (conv => whnf))))
      refine hL _ ?_
      ((conv => whnf); repeat (first | (apply load_at; (conv => lhs; whnf); (with_reducible assumption); rfl; (conv => whnf)) | (apply load_at; (conv => lhs; rw [add_plain, add_plain]); (with_reducible assumption); rfl; (conv => whnf)) | (apply loads_at; (conv => lhs; whnf); (with_reducible assumption); rfl; (conv => whnf)) | (refine ⟨⟨by omega, by omega⟩, ?_⟩; (conv => whnf))))
      refine new_step (zeroP) rfl fun u h0_u => ?_
      have hU_u := Heap.put_same F6 u (zeroP)
      have hX_u := fun o => (ext_put_put h0_u (o := zeroP) (o' := o))
      generalize F6.put u (zeroP) = F7 at hU_u hX_u ⊢
      (conv => whnf)
      refine store_step u 0 _ (prC (.slice ra rk.length rc) (.slice rb rv.length rcc)) rfl hU_u rfl rfl (.inl (Nat.le_refl 0)) (os2 _ _ _ _ _ _) ?_
      have hB_u := Heap.put_same F7 u (prO (.slice ra rk.length rc) (.slice rb rv.length rcc))
      have hE_u := hX_u (prO (.slice ra rk.length rc) (.slice rb rv.length rcc))
      clear hU_u hX_u
      generalize F7.put u _ = F7 at hB_u hE_u ⊢
      have E7 := E6.trans hE_u
      have hfd := find ys B cb rk ra rc F7 (hb.mono E7) (by omega) (fun r hr => (hob r hr).ok.1.mono E7) hsb (g1.mono hE_u)
      have hzi : decide (rk ∈ ys.map PR.k) = !z := by
        by_cases hin : rk ∈ ys.map PR.k
        · have hlk := (lbN_mem (k := rk) hsb).1 hin
          rw [List.getElem?_map] at hlk
          obtain ⟨x, hx, hxk⟩ := Option.map_eq_some_iff.1 hlk
          rw [decide_eq_true hin, hnp, getL_lb hx hxk]
          rfl
        · rw [decide_eq_false hin, hnp, getL_none hin]
          rfl
      rw [hzi] at hfd
      generalize lbN (ys.map PR.k) rk = lb at hfd
      ((conv => whnf); repeat (first | (apply load_at; (conv => lhs; whnf); (with_reducible assumption); rfl; (conv => whnf)) | (apply load_at; (conv => lhs; rw [add_plain, add_plain]); (with_reducible assumption); rfl; (conv => whnf)) | (apply loads_at; (conv => lhs; whnf); (with_reducible assumption); rfl; (conv => whnf)) | (refine ⟨⟨by omega, by omega⟩, ?_⟩; (conv => whnf))))
      refine call_of hfd ?_
      rintro v F8 ⟨rfl, E8⟩
      have hB8 := E8 _ _ hB_u
      have E68 := hE_u.trans E8
      have hM8 := hM.mono E68
      refine short [1, 6, 7, 13, 56, 57, 58, 66] [.slice B ys.length cb, .slice A1 acc.length c1, S, .pointer (some ⟨u, 0, none⟩), .slice (some ad) xs.length ca, .int .i64 (xs.length : Int), .int .i64 (j : Int), .tuple #[.int .i64 (lb : Nat), .bool (!z)]] rfl fun ρ => ?_
      ((conv => whnf); repeat (first | (apply load_at; (conv => lhs; whnf); (with_reducible assumption); rfl; (conv => whnf)) | (apply load_at; (conv => lhs; rw [add_plain, add_plain]); (with_reducible assumption); rfl; (conv => whnf)) | (apply loads_at; (conv => lhs; whnf); (with_reducible assumption); rfl; (conv => whnf)) | (refine ⟨⟨by omega, by omega⟩, ?_⟩; (conv => whnf))))
      refine cond_split (fun h => ?_) (fun h => ?_)
      · have e : z = true := by cases z with | true => rfl | false => exact absurd h (by decide)
        rw [if_pos e] at hstep
        refine short [1, 6, 7, 13, 56, 57, 58] [.slice B ys.length cb, .slice A1 acc.length c1, S, .pointer (some ⟨u, 0, none⟩), .slice (some ad) xs.length ca, .int .i64 (xs.length : Int), .int .i64 (j : Int)] rfl fun ρ => ?_
        ((conv => whnf); repeat (first | (apply load_at; (conv => lhs; whnf); (with_reducible assumption); rfl; (conv => whnf)) | (apply load_at; (conv => lhs; rw [add_plain, add_plain]); (with_reducible assumption); rfl; (conv => whnf)) | (apply loads_at; (conv => lhs; whnf); (with_reducible assumption); rfl; (conv => whnf)) | (refine ⟨⟨by omega, by omega⟩, ?_⟩; (conv => whnf))))
        refine call_of (clone rk ra rc F8 (g1.mono E68) (by omega)) ?_
        rintro v F9 hN
        obtain ⟨A9, c9, rfl, e9, r9⟩ := hN.own.row
        have f9 : ∀ a, A9 = some a → F8 a.block = none := fun a ha => hN.fresh _ (by rw [ha]; rfl)
        obtain ⟨hM9, hGG⟩ := hM8.more hN.ext
        ((conv => whnf); repeat (first | (apply load_at; (conv => lhs; whnf); (with_reducible assumption); rfl; (conv => whnf)) | (apply load_at; (conv => lhs; rw [add_plain, add_plain]); (with_reducible assumption); rfl; (conv => whnf)) | (apply loads_at; (conv => lhs; whnf); (with_reducible assumption); rfl; (conv => whnf)) | (refine ⟨⟨by omega, by omega⟩, ?_⟩; (conv => whnf))))
        refine new_step (.cells #[brV ⟨rk, A9, c9⟩] 55) rfl fun g h0_g => ?_
        have hE_g := Ext.new h0_g (.cells #[brV ⟨rk, A9, c9⟩] 55)
        have hB_g := Heap.put_same F9 g (.cells #[brV ⟨rk, A9, c9⟩] 55)
        generalize F9.put g _ = F10 at hE_g hB_g ⊢
        have hM10 := hM9.mono hE_g
        ((conv => whnf); repeat (first | (apply load_at; (conv => lhs; whnf); (with_reducible assumption); rfl; (conv => whnf)) | (apply load_at; (conv => lhs; rw [add_plain, add_plain]); (with_reducible assumption); rfl; (conv => whnf)) | (apply loads_at; (conv => lhs; whnf); (with_reducible assumption); rfl; (conv => whnf)) | (refine ⟨⟨by omega, by omega⟩, ?_⟩; (conv => whnf))))
        refine append_own tab_ok (s := S) (n := ds.length) (xs := bsV ds) (m := 1) (ys := [brV ⟨rk, A9, c9⟩]) (y := .slice (some ⟨g, 0, none⟩) 1 1) rfl rfl rfl rfl rfl ⟨_, rfl, fun k h => by cases h⟩ ⟨_, rfl, rfl⟩ (by decide) hM10.own ⟨rfl, .inl ⟨_, _, rfl, row_blk hB_g⟩⟩ (one_slice _ _ _) (by show 2 * (ds.length + 1) * 24 ≤ _; omega) fun S11 F11 hO11 hK11 hf11 => ?_
        have hM11 := hM10.push (d := ⟨rk, A9, c9⟩) hO11 hK11 hf11 (rowAt_gain r9 f9)
        ((conv => whnf); repeat (first | (apply load_at; (conv => lhs; whnf); (with_reducible assumption); rfl; (conv => whnf)) | (apply load_at; (conv => lhs; rw [add_plain, add_plain]); (with_reducible assumption); rfl; (conv => whnf)) | (apply loads_at; (conv => lhs; whnf); (with_reducible assumption); rfl; (conv => whnf)) | (refine ⟨⟨by omega, by omega⟩, ?_⟩; (conv => whnf))))
        refine ⟨m - 1, by omega, j + 1, _, S11, _, by omega, ?_, hM11, hG.trans hGG, ?_⟩
        · rw [← hws]
          rfl
        · rw [hstep, List.map_append]; rfl
      · have e : ¬ z = true := by cases z with | true => exact absurd h (by decide) | false => decide
        rw [if_neg e, List.append_nil] at hstep
        ((conv => whnf); repeat (first | (apply load_at; (conv => lhs; whnf); (with_reducible assumption); rfl; (conv => whnf)) | (apply load_at; (conv => lhs; rw [add_plain, add_plain]); (with_reducible assumption); rfl; (conv => whnf)) | (apply loads_at; (conv => lhs; whnf); (with_reducible assumption); rfl; (conv => whnf)) | (refine ⟨⟨by omega, by omega⟩, ?_⟩; (conv => whnf))))
        refine ⟨m - 1, by omega, j + 1, ds, S, G, by omega, ?_, hM8, hG, hstep.symm⟩
        rw [← hws]
        rfl
    · have hj : j = xs.length := by have := of_decide_eq_false h; omega
      rw [hj, List.take_length, ← hDe] at hds
      ((conv => whnf); repeat (first | (apply load_at; (conv => lhs; whnf); (with_reducible assumption); rfl; (conv => whnf)) | (apply load_at; (conv => lhs; rw [add_plain, add_plain]); (with_reducible assumption); rfl; (conv => whnf)) | (apply loads_at; (conv => lhs; whnf); (with_reducible assumption); rfl; (conv => whnf)) | (refine ⟨⟨by omega, by omega⟩, ?_⟩; (conv => whnf))))
      exact ⟨acc, ds, _, _, rfl, hps.mono E56, hacc, hM.row, hds, E6⟩
end Go.Proofs.Ytlkdbmoocajjlaa.Al

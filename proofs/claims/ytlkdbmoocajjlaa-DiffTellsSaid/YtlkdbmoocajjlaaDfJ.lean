/- slices.overlaps, slices.ContainsFunc of rows of bytes, diff.without, over what is known of memory. -/
import Derived.Test.YtlkdbmoocajjlaaDfI
import Derived.Test.YtlkdbmoocajjlaaAlGrow
namespace Go.Proofs.Ytlkdbmoocajjlaa.Al
open Go Go.Al Go.Proofs Go.RowKit
set_option maxHeartbeats 8000000
set_option maxRecDepth 100000
set_option linter.unusedVariables false
set_option linter.unusedSimpArgs false
theorem overlapsApart {F : Heap} {g b off n c : Nat} {cs cur : Array Value} {e e' : TypeId} {fz : Nat × Nat} (hg : F g = some (.cells cs e)) (hb : F b = some (.cells cur e' fz)) (hne : g ≠ b) (h0 : cur.size ≠ 0) {K : Value → Heap → Prop} (hk : K (.bool false) F) :
    CallK Try.prog 75 #[.slice (some ⟨g, 0, none⟩) 1 1, .slice (some ⟨b, off, none⟩) n c] F K := by
  refine ⟨?_⟩
  have e1 : ∃ fn, Try.prog.funcs[75]? = some fn ∧ (fn.name == "runtime.NumGoroutine") = false ∧ fn.body = none ∧ Extern.findNext fn = none ∧ Extern.find fn = some (Extern.SlicesOverlaps.overlaps #[43, 43] #[4]) := ⟨_, Try.func75, by kernel_rfl, rfl, by kernel_rfl, by kernel_rfl⟩
  obtain ⟨fn, hf, h1, h2, h3, h4⟩ := e1
  have hu : Try.prog.underlying 43 = some (.slice 75) := Try.underlying43
  obtain ⟨sz, hsz⟩ : ∃ sz, ∀ F (K : Nat → Heap → Prop), K sz F → wk Try.prog (Go.sizeOf 75) F K := by
    obtain ⟨_, i, hi, hs, _, _⟩ := tab_ok 75 _ rfl
    exact ⟨i.size, fun F K hK => by rw [wk_sizeOf hi]; exact hK⟩
  have hnb : (g != b) = true := by simpa using hne
  have hnb' : (g == b) = false := by simpa using hne
  have fg : F.frozen? ⟨g, 0, none⟩ = some false := by simp [Heap.frozen?, hg]
  have fg2 : F.frozen? ⟨g, cs.size, none⟩ = some false := by simp [Heap.frozen?, hg]
  obtain ⟨q, fb⟩ : ∃ q, F.frozen? ⟨b, off, none⟩ = some q := ⟨_, by simp only [Heap.frozen?, hb]; rfl⟩
  obtain ⟨q2, fb2⟩ : ∃ q, F.frozen? ⟨b, cur.size, none⟩ = some q := ⟨_, by simp only [Heap.frozen?, hb]; rfl⟩
  have sg : F.shape? g = some (some (e, cs.size)) := by simp [Heap.shape?, hg]
  have sb : F.shape? b = some (some (e', cur.size)) := by simp [Heap.shape?, hb]
  simp only [callFunc, wk_bind, wk_program, hf, h1, h2, Bool.false_eq_true, if_false, h3, h4, wk_mark, Option.isNone_none, if_true]
  have main : ∀ K' : Value → Heap → Prop, K' (.bool false) F → wk Try.prog (Extern.SlicesOverlaps.overlaps #[43, 43] #[4] #[.slice (some ⟨g, 0, none⟩) 1 1, .slice (some ⟨b, off, none⟩) n c]) F K' := by
    intro K' hK
    change wk Try.prog (do
      let some t := (#[43, 43] : Array TypeId)[0]? | stuck "slices.overlaps: no parameter types"
      let .slice elem ← underlying t | stuck "slices.overlaps: slice type expected"
      let size ← Go.sizeOf elem
      match (some (⟨g, 0, none⟩ : Addr) : Option Addr), (some (⟨b, off, none⟩ : Addr) : Option Addr) with
      | some a, some b =>
        if 1 = 0 ∨ n = 0 ∨ size = 0 then pure (Value.bool false)
        else if a.block != b.block && (← frozen a) && (← frozen b) then unsupported .addressObserved
        else do
          if a.block != b.block then do
            noView a; noView b
            if ← mayBeOne a b then return Value.bool ((← choose (.extern "sameAddr.stringBytes" 2)) == 1)
          pure (Value.bool (a.block == b.block && a.off < b.off + n * size && b.off < a.off + 1 * size))
      | _, _ => pure (Value.bool false)) F K'
    simp only [List.getElem?_toArray, List.getElem?_cons_zero, wk_bind]
    rw [wk_underlying hu]
    dsimp only
    rw [wk_bind]
    refine hsz _ _ ?_
    have wf : ∀ a q (L : Bool → Heap → Prop), F.frozen? a = some q → L q F → wk Try.prog (frozen a) F L := fun a q L h hl => ⟨q, h, hl⟩
    have ws : ∀ r s (L : Option (TypeId × Nat) → Heap → Prop), F.shape? r = some s → L s F → wk Try.prog (shape r) F L := fun r s L h hl => ⟨s, h, hl⟩
    have wn : ∀ (a : Addr) (p : TypeId × Nat) (L : Unit → Heap → Prop), F.shape? a.block = some (some p) → L () F → wk Try.prog (noView a) F L := fun a p L h hl => by
      unfold noView viewAt
      simp only [wk_bind]
      refine ws _ _ _ h ?_
      simp only [Option.isSome_some, if_true, wk_pure, Option.isSome_none, Bool.false_eq_true, if_false]
      exact hl
    have wst : ∀ (a : Addr) (p : TypeId × Nat) q q2 (L : Bool → Heap → Prop), F.shape? a.block = some (some p) → F.frozen? a = some q → F.frozen? ⟨a.block, p.2, none⟩ = some q2 → L (q || q2) F → wk Try.prog (stringish a) F L := fun a p q q2 L h hq hq2 hl => by
      unfold stringish
      simp only [wk_bind]
      refine wf _ _ _ hq ?_
      cases q with
      | true => simp only [if_true, wk_pure]; exact hl
      | false =>
        simp only [Bool.false_eq_true, if_false, wk_bind]
        refine ws _ _ _ h ?_
        exact wf _ _ _ hq2 hl
    by_cases hz : 1 = 0 ∨ n = 0 ∨ sz = 0
    · rw [if_pos hz]; exact hK
    rw [if_neg hz]
    simp only [wk_bind]
    refine wf _ _ _ fg ?_
    refine wf _ _ _ fb ?_
    simp only [hnb, hnb', Bool.true_and, Bool.false_and, Bool.false_eq_true, if_false, if_true, wk_bind]
    refine wn _ _ _ sg ?_
    refine wn _ _ _ sb ?_
    unfold mayBeOne
    simp only [wk_bind]
    refine wst _ _ _ _ _ sg fg fg2 ?_
    refine wst _ _ _ _ _ sb fb fb2 ?_
    refine ws _ _ _ sg ?_
    simp only [wk_pure]
    obtain ⟨k, hk0⟩ : ∃ k, cur.size = k + 1 := ⟨cur.size - 1, by omega⟩
    rw [hk0] at sb
    refine ws _ _ _ sb ?_
    simp only [wk_pure, Bool.or_self, Bool.false_and, Bool.and_false, Bool.false_eq_true, if_false]
    exact hK
  exact main _ hk
theorem indexB (id : Nat) (caps : List Value) (P : BR → Bool) (ds : List BR) (A : Option Addr) (c : Nat) (F : Heap) (hr : RowAt F A (bsV ds)) (hl : ds.length ≤ 100000)
    (hf : ∀ d ∈ ds, ∀ G, Ext F G → FnK Try.prog id ([brV d] ++ caps).toArray G (fun v F' => v = .bool (P d) ∧ Ext G F')) :
    FnK Try.prog 74 #[.slice A ds.length c, .func (.func id) #[] caps.toArray] F (fun v F' => (∃ r : Int, v = .int .i64 r ∧ decide (r ≥ 0) = ds.any P) ∧ Ext F F') := by
  (refine fn_walk tab_ok Try.func74 rfl rfl rfl rfl ?_; (conv => whnf))
  refine loop_slots [0, 1, 7, 8] (fun mm vs F' => ∃ j : Nat, j + mm = ds.length ∧ vs = [.slice A ds.length c, .func (.func id) #[] caps.toArray, .int .i64 (ds.length : Int), .int .i64 (j : Int)] ∧ (ds.take j).any P = false ∧ Ext F F') ds.length ⟨0, by omega, rfl, rfl, Ext.refl F⟩ ?_
  rintro mm vs F2 ρ ⟨j, hjm, rfl, hix, hE2⟩
  (conv => whnf)
  refine cond_split (fun h => ?_) (fun h => ?_)
  · have hj : j < ds.length := by have := of_decide_eq_true h; omega
    obtain ⟨ad, rfl⟩ := hr.some (by rw [bsV_len]; omega)
    have hf1 := hf ds[j] (List.getElem_mem hj) F2 hE2
    have hc := bs_cell (hr.mono hE2) (List.getElem?_eq_getElem hj)
    have hx : ds[j]? = some ds[j] := List.getElem?_eq_getElem hj
    have hstep : (ds.take (j + 1)).any P = P ds[j] := by
      rw [List.take_add_one, hx, Option.toList_some, List.any_append, hix]
      simp
    have hex : P ds[j] = true → ds.any P = true := fun e => List.any_eq_true.2 ⟨_, List.getElem_mem hj, e⟩
    generalize ds[j] = r at hf1 hc hstep hex
    generalize P r = z at hf1 hstep hex
    (conv => whnf)
    refine ⟨⟨by omega, by omega⟩, ?_⟩
    (conv => whnf)
    refine load_step hc ?_
    (conv => whnf)
    refine call_of hf1 ?_
    rintro v F3 ⟨rfl, hE3⟩
    replace hE3 := hE2.trans hE3
    cases z with
    | true =>
      have := hex rfl
      (conv => whnf)
      exact ⟨⟨(j : Int), rfl, by rw [this]; simp⟩, hE3⟩
    | false =>
      (conv => whnf)
      refine ⟨mm - 1, by omega, j + 1, by omega, ?_, hstep, hE3⟩
      have hw : IntKind.i64.wrap ((j : Int) + 1) = ((j + 1 : Nat) : Int) := by rw [IntKind.wrap_i64]; omega
      rw [← hw]
      rfl
  · have hj : j = ds.length := by have := of_decide_eq_false h; omega
    rw [hj, List.take_length] at hix
    (conv => whnf)
    exact ⟨⟨-1, rfl, by rw [hix]; rfl⟩, hE2⟩
theorem containsB (id : Nat) (caps : List Value) (P : BR → Bool) (ds : List BR) (A : Option Addr) (c : Nat) (F : Heap) (hr : RowAt F A (bsV ds)) (hl : ds.length ≤ 100000)
    (hf : ∀ d ∈ ds, ∀ G, Ext F G → FnK Try.prog id ([brV d] ++ caps).toArray G (fun v F' => v = .bool (P d) ∧ Ext G F')) :
    FnK Try.prog 56 #[.slice A ds.length c, .func (.func id) #[] caps.toArray] F (fun v F' => v = .bool (ds.any P) ∧ Ext F F') := by
  have hi := indexB id caps P ds A c F hr hl hf
  generalize ds.any P = q at hi
  (refine fn_walk tab_ok Try.func56 rfl rfl rfl rfl ?_; (conv => whnf))
  refine call_of hi ?_
  rintro v F1 ⟨⟨r, rfl, hr'⟩, hE⟩
  (conv => whnf)
  exact ⟨congrArg Value.bool hr', hE⟩
theorem isKey (d : BR) (r : PR) (p : Nat) (F : Heap) (hd : RowAt F d.A (bytesOf d.k)) (hr : RowAt F r.A (bytesOf r.k)) (hp : F p = some (.cells (prA r) 75)) :
    FnK Try.prog 57 ([brV d] ++ [Value.pointer (some ⟨p, 0, none⟩)]).toArray F (fun v F' => v = .bool (d.k == r.k) ∧ Ext F F') := by
  obtain ⟨dk, da, dc⟩ := d
  obtain ⟨rk, ra, rc, rv, rb, rcc⟩ := r
  have hb := bytesEqual dk rk da ra dc rc F hd hr
  show FnK _ _ _ _ (fun v F' => v = .bool (dk == rk) ∧ Ext F F')
  generalize (dk == rk) = z at hb
  (refine fn_walk tab_ok Try.func57 rfl rfl rfl rfl ?_; (conv => whnf))
  ((conv => whnf); repeat (first | (apply load_at; (conv => lhs; whnf); (with_reducible assumption); rfl; (conv => whnf)) | (apply load_at; (conv => lhs; rw [add_plain, add_plain]); (with_reducible assumption); rfl; (conv => whnf)) | (apply loads_at; (conv => lhs; whnf); (with_reducible assumption); rfl; (conv => whnf)) | (refine ⟨⟨by omega, by omega⟩, ?_⟩; (conv => whnf))))
  refine call_of hb ?_
  rintro v F1 ⟨rfl, rfl⟩
  ((conv => whnf); repeat (first | (apply load_at; (conv => lhs; whnf); (with_reducible assumption); rfl; (conv => whnf)) | (apply load_at; (conv => lhs; rw [add_plain, add_plain]); (with_reducible assumption); rfl; (conv => whnf)) | (apply loads_at; (conv => lhs; whnf); (with_reducible assumption); rfl; (conv => whnf)) | (refine ⟨⟨by omega, by omega⟩, ?_⟩; (conv => whnf))))
  exact ⟨rfl, Ext.refl _⟩
def anyD (ds : List BR) (r : PR) : Bool := ds.any fun d => d.k == r.k
theorem goneC (r : PR) (ds : List BR) (C : Option Addr) (cc q : Nat) (F : Heap) (hC : RowAt F C (bsV ds)) (hl : ds.length ≤ 100000) (hod : ∀ d ∈ ds, RowAt F d.A (bytesOf d.k)) (hr : RowAt F r.A (bytesOf r.k)) (hq : F q = some (.cells #[.slice C ds.length cc] 44)) :
    FnK Try.prog 55 ([Value.agg (prA r)] ++ [Value.pointer (some ⟨q, 0, none⟩)]).toArray F (fun v F' => v = .bool (anyD ds r) ∧ Ext F F') := by
  obtain ⟨rk, ra, rc, rv, rb, rcc⟩ := r
  have hcb := fun p F' (hE : Ext F F') hp => containsB 57 [.pointer (some ⟨p, 0, none⟩)] (fun d => d.k == rk) ds C cc F' (hC.mono hE) hl (fun d hd G hG => isKey d ⟨rk, ra, rc, rv, rb, rcc⟩ p G ((hod d hd).mono (hE.trans hG)) (hr.mono (hE.trans hG)) (hG _ _ hp))
  show FnK _ _ _ _ (fun v F' => v = .bool (ds.any fun d => d.k == rk) ∧ Ext F F')
  generalize (ds.any fun d => d.k == rk) = z at hcb
  (refine fn_walk tab_ok Try.func55 rfl rfl rfl rfl ?_; (conv => whnf))
  refine new_step (prO (.slice ra rk.length rc) (.slice rb rv.length rcc)) rfl fun p h0_p => ?_
  have hE_p := Ext.new h0_p (prO (.slice ra rk.length rc) (.slice rb rv.length rcc))
  have hB_p := Heap.put_same F p (prO (.slice ra rk.length rc) (.slice rb rv.length rcc))
  generalize F.put p _ = F1 at hE_p hB_p ⊢
  have hq1 := hE_p _ _ hq
  ((conv => whnf); repeat (first | (apply load_at; (conv => lhs; whnf); (with_reducible assumption); rfl; (conv => whnf)) | (apply load_at; (conv => lhs; rw [add_plain, add_plain]); (with_reducible assumption); rfl; (conv => whnf)) | (apply loads_at; (conv => lhs; whnf); (with_reducible assumption); rfl; (conv => whnf)) | (refine ⟨⟨by omega, by omega⟩, ?_⟩; (conv => whnf))))
  refine call_of (hcb p F1 hE_p hB_p) ?_
  rintro v F2 ⟨rfl, hE2⟩
  ((conv => whnf); repeat (first | (apply load_at; (conv => lhs; whnf); (with_reducible assumption); rfl; (conv => whnf)) | (apply load_at; (conv => lhs; rw [add_plain, add_plain]); (with_reducible assumption); rfl; (conv => whnf)) | (apply loads_at; (conv => lhs; whnf); (with_reducible assumption); rfl; (conv => whnf)) | (refine ⟨⟨by omega, by omega⟩, ?_⟩; (conv => whnf))))
  exact ⟨rfl, hE_p.trans hE2⟩
theorem without (id : Nat) (caps : List Value) (P : PR → Bool) (rs : List PR) (A : Option Addr) (c : Nat) (F : Heap) (hr : RowAt F A (prsV rs)) (hl : rs.length ≤ 100000) (hok : ∀ r ∈ rs, PrG F r)
    (hf : ∀ r ∈ rs, ∀ G, Ext F G → FnK Try.prog id ([Value.agg (prA r)] ++ caps).toArray G (fun v F' => v = .bool (P r) ∧ Ext G F')) :
    FnK Try.prog 54 #[.slice A rs.length c, .func (.func id) #[] caps.toArray] F (fun v F' => OutP F' F v (rs.filter fun r => !P r)) := by
  obtain ⟨res, hres⟩ : ∃ res, res = rs.filter fun r => !P r := ⟨_, rfl⟩
  rw [← hres]
  (refine fn_walk tab_ok Try.func54 rfl rfl rfl rfl ?_; (conv => whnf))
  ((conv => whnf); repeat (first | (apply load_at; (conv => lhs; whnf); (with_reducible assumption); rfl; (conv => whnf)) | (apply load_at; (conv => lhs; rw [add_plain, add_plain]); (with_reducible assumption); rfl; (conv => whnf)) | (apply loads_at; (conv => lhs; whnf); (with_reducible assumption); rfl; (conv => whnf)) | (refine ⟨⟨by omega, by omega⟩, ?_⟩; (conv => whnf))))
  refine loop_slots [1, 5, 8, 9, 10] (fun m vs F' => ∃ (j : Nat) (acc : List PR) (S : Value), j + m = rs.length ∧ vs = [.func (.func id) #[] caps.toArray, S, .slice A rs.length c, .int .i64 (rs.length : Int), .int .i64 (j : Int)] ∧ OutP F' F S acc ∧ acc = (rs.take j).filter fun r => !P r) rs.length ⟨0, [], .slice none 0 0, by omega, rfl, OutP.nil _ _ (Ext.refl _), rfl⟩ ?_
  rintro m vs F2 ρ ⟨j, acc, S, hm, rfl, hM, hacc⟩
  ((conv => whnf); repeat (first | (apply load_at; (conv => lhs; whnf); (with_reducible assumption); rfl; (conv => whnf)) | (apply load_at; (conv => lhs; rw [add_plain, add_plain]); (with_reducible assumption); rfl; (conv => whnf)) | (apply loads_at; (conv => lhs; whnf); (with_reducible assumption); rfl; (conv => whnf)) | (refine ⟨⟨by omega, by omega⟩, ?_⟩; (conv => whnf))))
  refine cond_split (fun h => ?_) (fun h => ?_)
  · have hj : j < rs.length := by have := of_decide_eq_true h; omega
    obtain ⟨ad, rfl⟩ := hr.some (by rw [prsV_len]; omega)
    have hws : IntKind.i64.wrap ((j : Int) + 1) = ((j + 1 : Nat) : Int) := wrap_succ (by omega)
    have hal : acc.length ≤ 100000 := by
      have := List.length_filter_le (fun r => !P r) (rs.take j)
      rw [← hacc, List.length_take] at this
      omega
    have hstep : (rs.take (j + 1)).filter (fun r => !P r) = acc ++ if (!P rs[j]) = true then [rs[j]] else [] := by
      rw [List.take_add_one, List.getElem?_eq_getElem hj, Option.toList_some, List.filter_append, ← hacc]
      congr 1
      rw [List.filter_cons, List.filter_nil]
    have hL := fun (K : Value → Prop) => pr_load (K := K) (hr.mono hM.base) hj
    have hg := hok _ (List.getElem_mem hj)
    have hf1 := hf rs[j] (List.getElem_mem hj)
    generalize rs[j] = r at hstep hL hg hf1
    generalize P r = z at hstep hf1
    ((conv => whnf); repeat (first | (apply load_at; (conv => lhs; whnf); (with_reducible assumption); rfl; (conv => whnf)) | (apply load_at; (conv => lhs; rw [add_plain, add_plain]); (with_reducible assumption); rfl; (conv => whnf)) | (apply loads_at; (conv => lhs; whnf); (with_reducible assumption); rfl; (conv => whnf)) | (refine ⟨⟨by omega, by omega⟩, ?_⟩; (conv => whnf))))
    refine hL _ ?_
    ((conv => whnf); repeat (first | (apply load_at; (conv => lhs; whnf); (with_reducible assumption); rfl; (conv => whnf)) | (apply load_at; (conv => lhs; rw [add_plain, add_plain]); (with_reducible assumption); rfl; (conv => whnf)) | (apply loads_at; (conv => lhs; whnf); (with_reducible assumption); rfl; (conv => whnf)) | (refine ⟨⟨by omega, by omega⟩, ?_⟩; (conv => whnf))))
    refine new_step (zeroP) rfl fun u h0_u => ?_
    have hU_u := Heap.put_same F2 u (zeroP)
    have hX_u := fun o => (ext_put_put h0_u (o := zeroP) (o' := o))
    generalize F2.put u (zeroP) = F3 at hU_u hX_u ⊢
    (conv => whnf)
    refine store_step u 0 _ (prC (.slice r.A r.k.length r.c) (.slice r.B r.v.length r.cc)) rfl hU_u rfl rfl (.inl (Nat.le_refl 0)) (os2 _ _ _ _ _ _) ?_
    have hB_u := Heap.put_same F3 u (prO (.slice r.A r.k.length r.c) (.slice r.B r.v.length r.cc))
    have hE_u := hX_u (prO (.slice r.A r.k.length r.c) (.slice r.B r.v.length r.cc))
    clear hU_u hX_u
    generalize F3.put u _ = F3 at hB_u hE_u ⊢
    have hM3 := hM.mono hE_u
    ((conv => whnf); repeat (first | (apply load_at; (conv => lhs; whnf); (with_reducible assumption); rfl; (conv => whnf)) | (apply load_at; (conv => lhs; rw [add_plain, add_plain]); (with_reducible assumption); rfl; (conv => whnf)) | (apply loads_at; (conv => lhs; whnf); (with_reducible assumption); rfl; (conv => whnf)) | (refine ⟨⟨by omega, by omega⟩, ?_⟩; (conv => whnf))))
    refine call_of (hf1 F3 hM3.base) ?_
    rintro v F4 ⟨rfl, hE4⟩
    have hM4 := hM3.mono hE4
    have hB4 := hE4 _ _ hB_u
    cases z with
    | true =>
      rw [if_neg (by decide), List.append_nil] at hstep
      ((conv => whnf); repeat (first | (apply load_at; (conv => lhs; whnf); (with_reducible assumption); rfl; (conv => whnf)) | (apply load_at; (conv => lhs; rw [add_plain, add_plain]); (with_reducible assumption); rfl; (conv => whnf)) | (apply loads_at; (conv => lhs; whnf); (with_reducible assumption); rfl; (conv => whnf)) | (refine ⟨⟨by omega, by omega⟩, ?_⟩; (conv => whnf))))
      refine ⟨m - 1, by omega, j + 1, acc, S, by omega, ?_, hM4, hstep.symm⟩
      rw [← hws]
      rfl
    | false =>
      rw [if_pos (show (!false) = true from rfl)] at hstep
      ((conv => whnf); repeat (first | (apply load_at; (conv => lhs; whnf); (with_reducible assumption); rfl; (conv => whnf)) | (apply load_at; (conv => lhs; rw [add_plain, add_plain]); (with_reducible assumption); rfl; (conv => whnf)) | (apply loads_at; (conv => lhs; whnf); (with_reducible assumption); rfl; (conv => whnf)) | (refine ⟨⟨by omega, by omega⟩, ?_⟩; (conv => whnf))))
      refine new_step (prO (.slice r.A r.k.length r.c) (.slice r.B r.v.length r.cc)) rfl fun g h0_g => ?_
      have hE_g := Ext.new h0_g (prO (.slice r.A r.k.length r.c) (.slice r.B r.v.length r.cc))
      have hB_g := Heap.put_same F4 g (prO (.slice r.A r.k.length r.c) (.slice r.B r.v.length r.cc))
      generalize F4.put g _ = F5 at hE_g hB_g ⊢
      have hM5 := hM4.mono hE_g
      ((conv => whnf); repeat (first | (apply load_at; (conv => lhs; whnf); (with_reducible assumption); rfl; (conv => whnf)) | (apply load_at; (conv => lhs; rw [add_plain, add_plain]); (with_reducible assumption); rfl; (conv => whnf)) | (apply loads_at; (conv => lhs; whnf); (with_reducible assumption); rfl; (conv => whnf)) | (refine ⟨⟨by omega, by omega⟩, ?_⟩; (conv => whnf))))
      refine append_own tab_ok (s := S) (n := acc.length) (xs := prsV acc) (m := 1) (ys := (prA r).toList) (y := .slice (some ⟨g, 0, none⟩) 1 1) rfl rfl rfl rfl rfl ⟨_, rfl, fun k h => by cases h⟩ ⟨_, rfl, rfl⟩ (by decide) hM5.own ⟨rfl, .inl ⟨_, _, rfl, row_blk hB_g⟩⟩ (pr_one _) (by show 2 * (acc.length + 1) * 48 ≤ _; omega) fun S6 F6 hO6 hK6 hf6 => ?_
      have hM6 := hM5.push hO6 hK6 hf6 hg
      ((conv => whnf); repeat (first | (apply load_at; (conv => lhs; whnf); (with_reducible assumption); rfl; (conv => whnf)) | (apply load_at; (conv => lhs; rw [add_plain, add_plain]); (with_reducible assumption); rfl; (conv => whnf)) | (apply loads_at; (conv => lhs; whnf); (with_reducible assumption); rfl; (conv => whnf)) | (refine ⟨⟨by omega, by omega⟩, ?_⟩; (conv => whnf))))
      refine ⟨m - 1, by omega, j + 1, acc ++ [r], S6, by omega, ?_, hM6, hstep.symm⟩
      rw [← hws]
      rfl
  · have hj : j = rs.length := by have := of_decide_eq_false h; omega
    rw [hj, List.take_length, ← hres] at hacc
    subst hacc
    ((conv => whnf); repeat (first | (apply load_at; (conv => lhs; whnf); (with_reducible assumption); rfl; (conv => whnf)) | (apply load_at; (conv => lhs; rw [add_plain, add_plain]); (with_reducible assumption); rfl; (conv => whnf)) | (apply loads_at; (conv => lhs; whnf); (with_reducible assumption); rfl; (conv => whnf)) | (refine ⟨⟨by omega, by omega⟩, ?_⟩; (conv => whnf))))
    exact hM
end Go.Proofs.Ytlkdbmoocajjlaa.Al

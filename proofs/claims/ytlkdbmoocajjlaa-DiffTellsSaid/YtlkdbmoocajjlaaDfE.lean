/- The reference's tables: exchequerref12.Put. -/
import Derived.Test.YtlkdbmoocajjlaaDfD
namespace Go.Proofs.Ytlkdbmoocajjlaa.Al
open Go Go.Al Go.Proofs Go.RowKit
set_option maxHeartbeats 8000000
set_option maxRecDepth 100000
set_option linter.unusedVariables false
set_option linter.unusedSimpArgs false
theorem lbN_lead {k : List UInt8} : ∀ {l : List (List UInt8)} (h : Nat) (x : List UInt8), l[h]? = some x → h ≤ lbN l k → (ltB x k = true ↔ h < lbN l k)
  | [], h, x, hx, _ => by cases hx
  | y :: t, h, x, hx, hle => by
    rw [lbN_cons] at hle ⊢
    cases h with
    | zero =>
      obtain rfl : y = x := by simpa using hx
      split
      · next e => exact ⟨fun _ => by omega, fun _ => e⟩
      · next e => exact ⟨fun e2 => absurd e2 e, fun e2 => by omega⟩
    | succ h =>
      have hx : t[h]? = some x := by simpa using hx
      split at hle
      · next e =>
        rw [if_pos e, lbN_lead h x hx (by omega)]
        omega
      · omega
theorem str_lt (a b : List UInt8) : Op.bytesLess (⟨a.toArray⟩ : ByteArray).toList (⟨b.toArray⟩ : ByteArray).toList = ltB a b := by
  have : ∀ c : List UInt8, (⟨c.toArray⟩ : ByteArray).toList = c := fun c => by rw [ByteArray.toList_eq]
  rw [this, this]
theorem put (rs : List PR) (t : Nat) (k : List UInt8) (KA : Option Addr) (kc : Nat) (w : List UInt8) (VA : Option Addr) (vc : Nat) (F G : Heap) (hT : Tab F G t rs) (hl : rs.length ≤ 1000) (hk : RowAt F KA (bytesOf k)) (hv : RowAt F VA (bytesOf w)) (hkl : k.length ≤ 200) (hvl : w.length ≤ 400) :
    FnK Try.prog 46 #[.pointer (some ⟨t, 0, none⟩), .slice KA k.length kc, .slice VA w.length vc] F (fun v F' => v = .tuple #[] ∧ ∃ G' r, r.k = k ∧ r.v = w ∧ Tab F' G' t (putR rs r (lbN (rs.map PR.k) k)) ∧ Ext G G' ∧ Keeps F F' (some t)) := by
  have hT0 := hT
  obtain ⟨⟨A, c, hB, hlc, hrow⟩, hbase, hgt, hok⟩ := hT
  have hrF := hrow.mono hbase
  have hlead := fun j (r : PR) (hr : rs[j]? = some r) => lbN_lead (k := k) (l := rs.map PR.k) j r.k (by rw [List.getElem?_map, hr]; rfl)
  have hnl : lbN (rs.map PR.k) k ≤ rs.length := by have := lbN_le k (rs.map PR.k); rw [List.length_map] at this; exact this
  have hpr : ∀ r : PR, r.k = k → putR rs r (lbN (rs.map PR.k) k) = if (rs.map PR.k)[lbN (rs.map PR.k) k]? = some k then rs.set (lbN (rs.map PR.k) k) r else rs.take (lbN (rs.map PR.k) k) ++ r :: rs.drop (lbN (rs.map PR.k) k) := fun r hr => by unfold putR; rw [hr]
  generalize lbN (rs.map PR.k) k = n at hlead hnl hpr
  obtain ⟨z2, hz2⟩ : ∃ z, z = decide ((rs.map PR.k)[n]? = some k) := ⟨_, rfl⟩
  (refine fn_walk tab_ok Try.func46 rfl rfl rfl rfl ?_; (conv => whnf))
  ((conv => whnf); repeat (first | (apply load_at; (conv => lhs; whnf); (with_reducible assumption); rfl; (conv => whnf)) | (apply load_at; (conv => lhs; rw [add_plain, add_plain]); (with_reducible assumption); rfl; (conv => whnf)) | (apply loads_at; (conv => lhs; whnf); (with_reducible assumption); rfl; (conv => whnf)) | (refine ⟨⟨by omega, by omega⟩, ?_⟩; (conv => whnf))))
  refine append_mine tab_ok rfl rfl rfl rfl rfl ⟨_, rfl, fun k h => by cases h⟩ ⟨_, rfl, rfl⟩ (by decide) (Mine.nil F F _ _ (Ext.refl _)) (m := k.length) (ys := bytesOf k) (y := .slice KA k.length kc) ⟨by simp [bytesOf], .inl ⟨_, _, rfl, hk⟩⟩ (hone_bytes k) (by show 2 * (0 + k.length) * 1 ≤ _; omega) fun s1 F1 hM1 _ => ?_
  rw [Nat.zero_add, List.nil_append] at hM1
  obtain ⟨A1, c1, rfl, hc1, hr1⟩ := hM1.own.row
  have f1 : ∀ a, A1 = some a → F a.block = none := fun a ha => hM1.fresh _ (by rw [ha]; rfl)
  have E1 := hM1.ext
  ((conv => whnf); repeat (first | (apply load_at; (conv => lhs; whnf); (with_reducible assumption); rfl; (conv => whnf)) | (apply load_at; (conv => lhs; rw [add_plain, add_plain]); (with_reducible assumption); rfl; (conv => whnf)) | (apply loads_at; (conv => lhs; whnf); (with_reducible assumption); rfl; (conv => whnf)) | (refine ⟨⟨by omega, by omega⟩, ?_⟩; (conv => whnf))))
  refine append_mine tab_ok rfl rfl rfl rfl rfl ⟨_, rfl, fun k h => by cases h⟩ ⟨_, rfl, rfl⟩ (by decide) (Mine.nil F1 F1 _ _ (Ext.refl _)) (m := w.length) (ys := bytesOf w) (y := .slice VA w.length vc) ⟨by simp [bytesOf], .inl ⟨_, _, rfl, hv.mono E1⟩⟩ (hone_bytes w) (by show 2 * (0 + w.length) * 1 ≤ _; omega) fun s2 F2 hM2 _ => ?_
  rw [Nat.zero_add, List.nil_append] at hM2
  obtain ⟨A2, c2, rfl, hc2, hr2⟩ := hM2.own.row
  have f2 : ∀ a, A2 = some a → F a.block = none := fun a ha => E1.none (hM2.fresh _ (by rw [ha]; rfl))
  have E2 := E1.trans hM2.ext
  have r1 := hr1.mono hM2.ext
  clear hM1 hM2 hr1
  ((conv => whnf); repeat (first | (apply load_at; (conv => lhs; whnf); (with_reducible assumption); rfl; (conv => whnf)) | (apply load_at; (conv => lhs; rw [add_plain, add_plain]); (with_reducible assumption); rfl; (conv => whnf)) | (apply loads_at; (conv => lhs; whnf); (with_reducible assumption); rfl; (conv => whnf)) | (refine ⟨⟨by omega, by omega⟩, ?_⟩; (conv => whnf))))
  refine new_step (zeroP) rfl fun p h0_p => ?_
  have hU_p := Heap.put_same F2 p (zeroP)
  have hX_p := fun o => (ext_put_put h0_p (o := zeroP) (o' := o))
  generalize F2.put p (zeroP) = F3 at hU_p hX_p ⊢
  (conv => whnf)
  refine store_step p 0 _ (prC (.slice A1 k.length c1) (.slice A2 w.length c2)) rfl hU_p rfl rfl (.inl (Nat.le_refl 0)) (os2 _ _ _ _ _ _) ?_
  have hB_p := Heap.put_same F3 p (prO (.slice A1 k.length c1) (.slice A2 w.length c2))
  have hE_p := hX_p (prO (.slice A1 k.length c1) (.slice A2 w.length c2))
  clear hU_p hX_p
  generalize F3.put p _ = F3 at hB_p hE_p ⊢
  have E3 := E2.trans hE_p
  have r1 := r1.mono hE_p
  have r2 := hr2.mono hE_p
  have hB3 := E3 _ _ hB
  have hk3 := hk.mono E3
  have hrF3 := hrF.mono E3
  refine short [0, 1, 6] [.pointer (some ⟨t, 0, none⟩), .slice KA k.length kc, .pointer (some ⟨p, 0, none⟩)] rfl fun ρ => ?_
  ((conv => whnf); repeat (first | (apply load_at; (conv => lhs; whnf); (with_reducible assumption); rfl; (conv => whnf)) | (apply load_at; (conv => lhs; rw [add_plain, add_plain]); (with_reducible assumption); rfl; (conv => whnf)) | (apply loads_at; (conv => lhs; whnf); (with_reducible assumption); rfl; (conv => whnf)) | (refine ⟨⟨by omega, by omega⟩, ?_⟩; (conv => whnf))))
  refine loop_slots [0, 1, 6, 7] (fun m vs F' => ∃ j : Nat, j + m = n ∧ vs = [.pointer (some ⟨t, 0, none⟩), .slice KA k.length kc, .pointer (some ⟨p, 0, none⟩), .int .i64 (j : Int)] ∧ F' = F3) n ⟨0, by omega, rfl, rfl⟩ ?_
  rintro m vs F4 ρ ⟨j, hm, rfl, rfl⟩
  have hws : IntKind.i64.wrap ((j : Int) + 1) = ((j + 1 : Nat) : Int) := wrap_succ (by omega)
  ((conv => whnf); repeat (first | (apply load_at; (conv => lhs; whnf); (with_reducible assumption); rfl; (conv => whnf)) | (apply load_at; (conv => lhs; rw [add_plain, add_plain]); (with_reducible assumption); rfl; (conv => whnf)) | (apply loads_at; (conv => lhs; whnf); (with_reducible assumption); rfl; (conv => whnf)) | (refine ⟨⟨by omega, by omega⟩, ?_⟩; (conv => whnf))))
  refine draw_cut (fun env' F' => [0, 1, 6, 7, 34].map env' = [.pointer (some ⟨t, 0, none⟩), .slice KA k.length kc, .pointer (some ⟨p, 0, none⟩), .int .i64 (j : Int), .bool (decide (j < n))] ∧ F' = F4) (fun K hK => ?_) ?_
  · refine draw_tree_at tab_ok (by kernel_rfl) [] (DT.row [0, 1, 2, 3, 4, 5, 6, 7, 8, 9, 10, 11, 12, 13, 14, 15, 17] (.fork (DT.row [16, 18, 19, 20] .nil) (DT.row [18, 16, 19, 20] .nil))) (by kernel_rfl) (fun _ => none) (fun _ _ h => by cases h) ?_
    ((conv => whnf); repeat (first | (apply load_at; (conv => lhs; whnf); (with_reducible assumption); rfl; (conv => whnf)) | (apply load_at; (conv => lhs; rw [add_plain, add_plain]); (with_reducible assumption); rfl; (conv => whnf)) | (apply loads_at; (conv => lhs; whnf); (with_reducible assumption); rfl; (conv => whnf)) | (refine ⟨⟨by omega, by omega⟩, ?_⟩; (conv => whnf))))
    refine cond_split (fun h => ?_) (fun h => ?_)
    · have h : decide ((j : Int) < (rs.length : Int)) = true := h
      have hj : j < rs.length := by have := of_decide_eq_true h; omega
      obtain ⟨ad, rfl⟩ := hrF.some (by rw [prsV_len]; omega)
      have hld := hlead j rs[j] (List.getElem?_eq_getElem hj) (by omega)
      have hG := ((hok _ (List.getElem_mem hj)).mono hbase).mono E3
      have c0 := pr_cell hrF3 hj (i := 0) rfl
      generalize rs[j] = r at hld hG c0
      obtain ⟨rk, ra, rc, rv, rb, rcc⟩ := r
      obtain ⟨⟨g1, _⟩, _⟩ := hG
      have hq := str_lt rk k
      rw [show ltB rk k = decide (j < n) by rw [Bool.eq_iff_iff, decide_eq_true_iff]; exact hld] at hq
      ((conv => whnf); repeat (first | (apply load_at; (conv => lhs; whnf); (with_reducible assumption); rfl; (conv => whnf)) | (apply load_at; (conv => lhs; rw [add_plain, add_plain]); (with_reducible assumption); rfl; (conv => whnf)) | (apply loads_at; (conv => lhs; whnf); (with_reducible assumption); rfl; (conv => whnf)) | (refine ⟨⟨by omega, by omega⟩, ?_⟩; (conv => whnf))))
      refine load_step c0 ?_
      ((conv => whnf); repeat (first | (apply load_at; (conv => lhs; whnf); (with_reducible assumption); rfl; (conv => whnf)) | (apply load_at; (conv => lhs; rw [add_plain, add_plain]); (with_reducible assumption); rfl; (conv => whnf)) | (apply loads_at; (conv => lhs; whnf); (with_reducible assumption); rfl; (conv => whnf)) | (refine ⟨⟨by omega, by omega⟩, ?_⟩; (conv => whnf))))
      refine ⟨?_, ?_⟩
      · ((conv => whnf); repeat (first | (apply load_at; (conv => lhs; whnf); (with_reducible assumption); rfl; (conv => whnf)) | (apply load_at; (conv => lhs; rw [add_plain, add_plain]); (with_reducible assumption); rfl; (conv => whnf)) | (apply loads_at; (conv => lhs; whnf); (with_reducible assumption); rfl; (conv => whnf)) | (refine ⟨⟨by omega, by omega⟩, ?_⟩; (conv => whnf))))
        refine conv_str tab_ok rk rfl rfl rfl rfl rfl g1 ?_
        (conv => whnf)
        refine ⟨(fun _ _ h => by cases h), ?_⟩
        ((conv => whnf); repeat (first | (apply load_at; (conv => lhs; whnf); (with_reducible assumption); rfl; (conv => whnf)) | (apply load_at; (conv => lhs; rw [add_plain, add_plain]); (with_reducible assumption); rfl; (conv => whnf)) | (apply loads_at; (conv => lhs; whnf); (with_reducible assumption); rfl; (conv => whnf)) | (refine ⟨⟨by omega, by omega⟩, ?_⟩; (conv => whnf))))
        refine conv_str tab_ok k rfl rfl rfl rfl rfl hk3 ?_
        (conv => whnf)
        refine ⟨(fun _ _ h => by cases h), Ext.refl _, ?_⟩
        ((conv => whnf); repeat (first | (apply load_at; (conv => lhs; whnf); (with_reducible assumption); rfl; (conv => whnf)) | (apply load_at; (conv => lhs; rw [add_plain, add_plain]); (with_reducible assumption); rfl; (conv => whnf)) | (apply loads_at; (conv => lhs; whnf); (with_reducible assumption); rfl; (conv => whnf)) | (refine ⟨⟨by omega, by omega⟩, ?_⟩; (conv => whnf))))
        refine hK _ _ ⟨?_, rfl⟩
        rw [← hq]
        rfl
      · ((conv => whnf); repeat (first | (apply load_at; (conv => lhs; whnf); (with_reducible assumption); rfl; (conv => whnf)) | (apply load_at; (conv => lhs; rw [add_plain, add_plain]); (with_reducible assumption); rfl; (conv => whnf)) | (apply loads_at; (conv => lhs; whnf); (with_reducible assumption); rfl; (conv => whnf)) | (refine ⟨⟨by omega, by omega⟩, ?_⟩; (conv => whnf))))
        refine conv_str tab_ok k rfl rfl rfl rfl rfl hk3 ?_
        (conv => whnf)
        refine ⟨(fun _ _ h => by cases h), Ext.refl _, ?_⟩
        ((conv => whnf); repeat (first | (apply load_at; (conv => lhs; whnf); (with_reducible assumption); rfl; (conv => whnf)) | (apply load_at; (conv => lhs; rw [add_plain, add_plain]); (with_reducible assumption); rfl; (conv => whnf)) | (apply loads_at; (conv => lhs; whnf); (with_reducible assumption); rfl; (conv => whnf)) | (refine ⟨⟨by omega, by omega⟩, ?_⟩; (conv => whnf))))
        refine conv_str tab_ok rk rfl rfl rfl rfl rfl g1 ?_
        (conv => whnf)
        refine ⟨(fun _ _ h => by cases h), ?_⟩
        ((conv => whnf); repeat (first | (apply load_at; (conv => lhs; whnf); (with_reducible assumption); rfl; (conv => whnf)) | (apply load_at; (conv => lhs; rw [add_plain, add_plain]); (with_reducible assumption); rfl; (conv => whnf)) | (apply loads_at; (conv => lhs; whnf); (with_reducible assumption); rfl; (conv => whnf)) | (refine ⟨⟨by omega, by omega⟩, ?_⟩; (conv => whnf))))
        refine hK _ _ ⟨?_, rfl⟩
        rw [← hq]
        rfl
    · have h : decide ((j : Int) < (rs.length : Int)) = false := h
      have hj : ¬ j < n := by have := of_decide_eq_false h; omega
      rw [decide_eq_false hj] at hK
      ((conv => whnf); repeat (first | (apply load_at; (conv => lhs; whnf); (with_reducible assumption); rfl; (conv => whnf)) | (apply load_at; (conv => lhs; rw [add_plain, add_plain]); (with_reducible assumption); rfl; (conv => whnf)) | (apply loads_at; (conv => lhs; whnf); (with_reducible assumption); rfl; (conv => whnf)) | (refine ⟨⟨by omega, by omega⟩, ?_⟩; (conv => whnf))))
      refine ⟨?_, ?_⟩
      · ((conv => whnf); repeat (first | (apply load_at; (conv => lhs; whnf); (with_reducible assumption); rfl; (conv => whnf)) | (apply load_at; (conv => lhs; rw [add_plain, add_plain]); (with_reducible assumption); rfl; (conv => whnf)) | (apply loads_at; (conv => lhs; whnf); (with_reducible assumption); rfl; (conv => whnf)) | (refine ⟨⟨by omega, by omega⟩, ?_⟩; (conv => whnf))))
        exact hK _ _ ⟨rfl, rfl⟩
      · ((conv => whnf); repeat (first | (apply load_at; (conv => lhs; whnf); (with_reducible assumption); rfl; (conv => whnf)) | (apply load_at; (conv => lhs; rw [add_plain, add_plain]); (with_reducible assumption); rfl; (conv => whnf)) | (apply loads_at; (conv => lhs; whnf); (with_reducible assumption); rfl; (conv => whnf)) | (refine ⟨⟨by omega, by omega⟩, ?_⟩; (conv => whnf))))
        exact hK _ _ ⟨rfl, rfl⟩
  rintro env' F5 ⟨he, rfl⟩
  refine short [0, 1, 6, 7, 34] [.pointer (some ⟨t, 0, none⟩), .slice KA k.length kc, .pointer (some ⟨p, 0, none⟩), .int .i64 (j : Int), .bool (decide (j < n))] he fun ρ => ?_
  ((conv => whnf); repeat (first | (apply load_at; (conv => lhs; whnf); (with_reducible assumption); rfl; (conv => whnf)) | (apply load_at; (conv => lhs; rw [add_plain, add_plain]); (with_reducible assumption); rfl; (conv => whnf)) | (apply loads_at; (conv => lhs; whnf); (with_reducible assumption); rfl; (conv => whnf)) | (refine ⟨⟨by omega, by omega⟩, ?_⟩; (conv => whnf))))
  refine cond_split (fun h => ?_) (fun h => ?_)
  · have hj : j < n := of_decide_eq_true h
    ((conv => whnf); repeat (first | (apply load_at; (conv => lhs; whnf); (with_reducible assumption); rfl; (conv => whnf)) | (apply load_at; (conv => lhs; rw [add_plain, add_plain]); (with_reducible assumption); rfl; (conv => whnf)) | (apply loads_at; (conv => lhs; whnf); (with_reducible assumption); rfl; (conv => whnf)) | (refine ⟨⟨by omega, by omega⟩, ?_⟩; (conv => whnf))))
    refine ⟨m - 1, by omega, j + 1, by omega, ?_, rfl⟩
    rw [← hws]
    rfl
  have hj : ¬ j < n := of_decide_eq_false h
  obtain rfl : j = n := by omega
  refine short [0, 1, 6, 7] [.pointer (some ⟨t, 0, none⟩), .slice KA k.length kc, .pointer (some ⟨p, 0, none⟩), .int .i64 (j : Int)] rfl fun ρ => ?_
  ((conv => whnf); repeat (first | (apply load_at; (conv => lhs; whnf); (with_reducible assumption); rfl; (conv => whnf)) | (apply load_at; (conv => lhs; rw [add_plain, add_plain]); (with_reducible assumption); rfl; (conv => whnf)) | (apply loads_at; (conv => lhs; whnf); (with_reducible assumption); rfl; (conv => whnf)) | (refine ⟨⟨by omega, by omega⟩, ?_⟩; (conv => whnf))))
  refine draw_cut (fun env' F' => [0, 1, 6, 7, 57].map env' = [.pointer (some ⟨t, 0, none⟩), .slice KA k.length kc, .pointer (some ⟨p, 0, none⟩), .int .i64 (j : Int), .bool z2] ∧ F' = F5) (fun K hK => ?_) ?_
  · refine draw_tree_at tab_ok (by kernel_rfl) [] (DT.row [0, 1, 2, 3, 4, 5, 6, 7, 8, 9, 10, 11, 12, 13, 14, 15, 17] (.fork (DT.row [16, 18, 19, 20] .nil) (DT.row [18, 16, 19, 20] .nil))) (by kernel_rfl) (fun _ => none) (fun _ _ h => by cases h) ?_
    ((conv => whnf); repeat (first | (apply load_at; (conv => lhs; whnf); (with_reducible assumption); rfl; (conv => whnf)) | (apply load_at; (conv => lhs; rw [add_plain, add_plain]); (with_reducible assumption); rfl; (conv => whnf)) | (apply loads_at; (conv => lhs; whnf); (with_reducible assumption); rfl; (conv => whnf)) | (refine ⟨⟨by omega, by omega⟩, ?_⟩; (conv => whnf))))
    refine cond_split (fun h => ?_) (fun h => ?_)
    · have h : decide ((j : Int) < (rs.length : Int)) = true := h
      have hj : j < rs.length := by have := of_decide_eq_true h; omega
      obtain ⟨ad, rfl⟩ := hrF.some (by rw [prsV_len]; omega)
      have hkj : (rs.map PR.k)[j]? = some rs[j].k := by rw [List.getElem?_map, List.getElem?_eq_getElem hj]; rfl
      have hG := ((hok _ (List.getElem_mem hj)).mono hbase).mono E3
      have c0 := pr_cell hrF3 hj (i := 0) rfl
      generalize rs[j] = r at hkj hG c0
      obtain ⟨rk, ra, rc, rv, rb, rcc⟩ := r
      replace hkj : (rs.map PR.k)[j]? = some rk := hkj
      obtain ⟨⟨g1, _⟩, _⟩ := hG
      have hq := str_beq rk k
      rw [show (rk == k) = z2 by rw [hz2, hkj, Bool.eq_iff_iff, decide_eq_true_iff, beq_iff_eq]; exact ⟨fun e => by rw [← e], fun e => Option.some.inj e⟩] at hq
      ((conv => whnf); repeat (first | (apply load_at; (conv => lhs; whnf); (with_reducible assumption); rfl; (conv => whnf)) | (apply load_at; (conv => lhs; rw [add_plain, add_plain]); (with_reducible assumption); rfl; (conv => whnf)) | (apply loads_at; (conv => lhs; whnf); (with_reducible assumption); rfl; (conv => whnf)) | (refine ⟨⟨by omega, by omega⟩, ?_⟩; (conv => whnf))))
      refine load_step c0 ?_
      ((conv => whnf); repeat (first | (apply load_at; (conv => lhs; whnf); (with_reducible assumption); rfl; (conv => whnf)) | (apply load_at; (conv => lhs; rw [add_plain, add_plain]); (with_reducible assumption); rfl; (conv => whnf)) | (apply loads_at; (conv => lhs; whnf); (with_reducible assumption); rfl; (conv => whnf)) | (refine ⟨⟨by omega, by omega⟩, ?_⟩; (conv => whnf))))
      refine ⟨?_, ?_⟩
      · ((conv => whnf); repeat (first | (apply load_at; (conv => lhs; whnf); (with_reducible assumption); rfl; (conv => whnf)) | (apply load_at; (conv => lhs; rw [add_plain, add_plain]); (with_reducible assumption); rfl; (conv => whnf)) | (apply loads_at; (conv => lhs; whnf); (with_reducible assumption); rfl; (conv => whnf)) | (refine ⟨⟨by omega, by omega⟩, ?_⟩; (conv => whnf))))
        refine conv_str tab_ok rk rfl rfl rfl rfl rfl g1 ?_
        (conv => whnf)
        refine ⟨(fun _ _ h => by cases h), ?_⟩
        ((conv => whnf); repeat (first | (apply load_at; (conv => lhs; whnf); (with_reducible assumption); rfl; (conv => whnf)) | (apply load_at; (conv => lhs; rw [add_plain, add_plain]); (with_reducible assumption); rfl; (conv => whnf)) | (apply loads_at; (conv => lhs; whnf); (with_reducible assumption); rfl; (conv => whnf)) | (refine ⟨⟨by omega, by omega⟩, ?_⟩; (conv => whnf))))
        refine conv_str tab_ok k rfl rfl rfl rfl rfl hk3 ?_
        (conv => whnf)
        refine ⟨(fun _ _ h => by cases h), Ext.refl _, ?_⟩
        ((conv => whnf); repeat (first | (apply load_at; (conv => lhs; whnf); (with_reducible assumption); rfl; (conv => whnf)) | (apply load_at; (conv => lhs; rw [add_plain, add_plain]); (with_reducible assumption); rfl; (conv => whnf)) | (apply loads_at; (conv => lhs; whnf); (with_reducible assumption); rfl; (conv => whnf)) | (refine ⟨⟨by omega, by omega⟩, ?_⟩; (conv => whnf))))
        refine hK _ _ ⟨?_, rfl⟩
        rw [← hq]
        rfl
      · ((conv => whnf); repeat (first | (apply load_at; (conv => lhs; whnf); (with_reducible assumption); rfl; (conv => whnf)) | (apply load_at; (conv => lhs; rw [add_plain, add_plain]); (with_reducible assumption); rfl; (conv => whnf)) | (apply loads_at; (conv => lhs; whnf); (with_reducible assumption); rfl; (conv => whnf)) | (refine ⟨⟨by omega, by omega⟩, ?_⟩; (conv => whnf))))
        refine conv_str tab_ok k rfl rfl rfl rfl rfl hk3 ?_
        (conv => whnf)
        refine ⟨(fun _ _ h => by cases h), Ext.refl _, ?_⟩
        ((conv => whnf); repeat (first | (apply load_at; (conv => lhs; whnf); (with_reducible assumption); rfl; (conv => whnf)) | (apply load_at; (conv => lhs; rw [add_plain, add_plain]); (with_reducible assumption); rfl; (conv => whnf)) | (apply loads_at; (conv => lhs; whnf); (with_reducible assumption); rfl; (conv => whnf)) | (refine ⟨⟨by omega, by omega⟩, ?_⟩; (conv => whnf))))
        refine conv_str tab_ok rk rfl rfl rfl rfl rfl g1 ?_
        (conv => whnf)
        refine ⟨(fun _ _ h => by cases h), ?_⟩
        ((conv => whnf); repeat (first | (apply load_at; (conv => lhs; whnf); (with_reducible assumption); rfl; (conv => whnf)) | (apply load_at; (conv => lhs; rw [add_plain, add_plain]); (with_reducible assumption); rfl; (conv => whnf)) | (apply loads_at; (conv => lhs; whnf); (with_reducible assumption); rfl; (conv => whnf)) | (refine ⟨⟨by omega, by omega⟩, ?_⟩; (conv => whnf))))
        refine hK _ _ ⟨?_, rfl⟩
        rw [← hq]
        rfl
    · have h : decide ((j : Int) < (rs.length : Int)) = false := h
      have hj : ¬ j < rs.length := by have := of_decide_eq_false h; omega
      have hzf : z2 = false := by rw [hz2, List.getElem?_eq_none (by rw [List.length_map]; omega)]; rfl
      rw [hzf] at hK
      ((conv => whnf); repeat (first | (apply load_at; (conv => lhs; whnf); (with_reducible assumption); rfl; (conv => whnf)) | (apply load_at; (conv => lhs; rw [add_plain, add_plain]); (with_reducible assumption); rfl; (conv => whnf)) | (apply loads_at; (conv => lhs; whnf); (with_reducible assumption); rfl; (conv => whnf)) | (refine ⟨⟨by omega, by omega⟩, ?_⟩; (conv => whnf))))
      refine ⟨?_, ?_⟩
      · ((conv => whnf); repeat (first | (apply load_at; (conv => lhs; whnf); (with_reducible assumption); rfl; (conv => whnf)) | (apply load_at; (conv => lhs; rw [add_plain, add_plain]); (with_reducible assumption); rfl; (conv => whnf)) | (apply loads_at; (conv => lhs; whnf); (with_reducible assumption); rfl; (conv => whnf)) | (refine ⟨⟨by omega, by omega⟩, ?_⟩; (conv => whnf))))
        exact hK _ _ ⟨rfl, rfl⟩
      · ((conv => whnf); repeat (first | (apply load_at; (conv => lhs; whnf); (with_reducible assumption); rfl; (conv => whnf)) | (apply load_at; (conv => lhs; rw [add_plain, add_plain]); (with_reducible assumption); rfl; (conv => whnf)) | (apply loads_at; (conv => lhs; whnf); (with_reducible assumption); rfl; (conv => whnf)) | (refine ⟨⟨by omega, by omega⟩, ?_⟩; (conv => whnf))))
        exact hK _ _ ⟨rfl, rfl⟩
  rintro env' F6 ⟨he, rfl⟩
  refine short [0, 1, 6, 7, 57] [.pointer (some ⟨t, 0, none⟩), .slice KA k.length kc, .pointer (some ⟨p, 0, none⟩), .int .i64 (j : Int), .bool z2] he fun ρ => ?_
  have f1n : ∀ a, A1 = some a → F a.block = none := f1
  ((conv => whnf); repeat (first | (apply load_at; (conv => lhs; whnf); (with_reducible assumption); rfl; (conv => whnf)) | (apply load_at; (conv => lhs; rw [add_plain, add_plain]); (with_reducible assumption); rfl; (conv => whnf)) | (apply loads_at; (conv => lhs; whnf); (with_reducible assumption); rfl; (conv => whnf)) | (refine ⟨⟨by omega, by omega⟩, ?_⟩; (conv => whnf))))
  refine cond_split (fun h => ?_) (fun h => ?_)
  · have h : z2 = true := h
    have hkj : (rs.map PR.k)[j]? = some k := by rw [h] at hz2; exact of_decide_eq_true hz2.symm
    have hj : j < rs.length := by have := (List.getElem?_eq_some_iff.1 hkj).1; rw [List.length_map] at this; exact this
    replace hpr : ∀ r : PR, r.k = k → putR rs r j = rs.set j r := fun r hr => by rw [hpr r hr, if_pos hkj]
    refine short [0, 1, 6, 7] [.pointer (some ⟨t, 0, none⟩), .slice KA k.length kc, .pointer (some ⟨p, 0, none⟩), .int .i64 (j : Int)] rfl fun ρ => ?_
    ((conv => whnf); repeat (first | (apply load_at; (conv => lhs; whnf); (with_reducible assumption); rfl; (conv => whnf)) | (apply load_at; (conv => lhs; rw [add_plain, add_plain]); (with_reducible assumption); rfl; (conv => whnf)) | (apply loads_at; (conv => lhs; whnf); (with_reducible assumption); rfl; (conv => whnf)) | (refine ⟨⟨by omega, by omega⟩, ?_⟩; (conv => whnf))))
    refine append_mine tab_ok rfl rfl rfl rfl rfl ⟨_, rfl, fun k h => by cases h⟩ ⟨_, rfl, rfl⟩ (by decide) (Mine.nil F6 F6 _ _ (Ext.refl _)) (m := rs.length) (ys := prsV rs) (y := .slice A rs.length c) ⟨prsV_len rs, .inl ⟨_, _, rfl, hrF3⟩⟩ (prs_one rs) (by show 2 * (0 + rs.length) * 48 ≤ _; omega) fun s7 F7 hM7 _ => ?_
    rw [Nat.zero_add, List.nil_append] at hM7
    have E7 := hM7.ext
    have hp7 := E7 _ _ hB_p
    have hB7 := E7 _ _ hB3
    obtain ⟨b, c7, rfl⟩ : ∃ b c7, s7 = .slice (some ⟨b, 0, none⟩) rs.length c7 := by
      rcases hM7.own.2 with ⟨_, h0⟩ | ⟨b, c7, cs, h0, _⟩
      · omega
      · exact ⟨b, c7, h0⟩
    have hbn : F6 b = none := hM7.fresh b rfl
    ((conv => whnf); repeat (first | (apply load_at; (conv => lhs; whnf); (with_reducible assumption); rfl; (conv => whnf)) | (apply load_at; (conv => lhs; rw [add_plain, add_plain]); (with_reducible assumption); rfl; (conv => whnf)) | (apply loads_at; (conv => lhs; whnf); (with_reducible assumption); rfl; (conv => whnf)) | (refine ⟨⟨by omega, by omega⟩, ?_⟩; (conv => whnf))))
    refine own_set hM7.own hj (by rw [Int.toNat_natCast, add_plain, Nat.zero_add]; rfl) ⟨k, A1, c1, w, A2, c2⟩ rfl fun F8 hO8 hK8 => ?_
    have E8 : Ext F6 F8 := hK8.ext E7 (fun k hk => by obtain rfl := Option.some.inj hk; exact hbn)
    have hB8 := E8 _ _ hB3
    obtain ⟨A8, d8, h8, hc8, hr8⟩ := hO8.row
    cases h8
    have EF8 := E3.trans E8
    have hln : (rs.set j ⟨k, A1, c1, w, A2, c2⟩).length = rs.length := List.length_set
    obtain ⟨T1, T2, T3⟩ := hT0.store EF8 (rs' := rs.set j ⟨k, A1, c1, w, A2, c2⟩) (c := c7) (A := some ⟨b, 0, none⟩) (by rw [hln]; exact hc8) hr8 (fun a ha => by obtain rfl := Option.some.inj ha; exact E3.none hbn) (fun x hx => by
      rcases List.mem_or_eq_of_mem_set hx with hx | rfl
      · exact (hok x hx).mono (gain_ext hbase)
      · exact ⟨⟨rowAt_gain (r1.mono E8) f1, rowAt_gain (r2.mono E8) f2, hc1, hc2⟩, hkl, hvl⟩)
    rw [hln] at T1 T3
    ((conv => whnf); repeat (first | (apply load_at; (conv => lhs; whnf); (with_reducible assumption); rfl; (conv => whnf)) | (apply load_at; (conv => lhs; rw [add_plain, add_plain]); (with_reducible assumption); rfl; (conv => whnf)) | (apply loads_at; (conv => lhs; whnf); (with_reducible assumption); rfl; (conv => whnf)) | (refine ⟨⟨by omega, by omega⟩, ?_⟩; (conv => whnf))))
    refine store_step t 0 _ #[.slice (some ⟨b, 0, none⟩) rs.length c7] rfl hB8 rfl rfl (.inl (Nat.le_refl 0)) (one_slice _ _ _) ?_
    ((conv => whnf); repeat (first | (apply load_at; (conv => lhs; whnf); (with_reducible assumption); rfl; (conv => whnf)) | (apply load_at; (conv => lhs; rw [add_plain, add_plain]); (with_reducible assumption); rfl; (conv => whnf)) | (apply loads_at; (conv => lhs; whnf); (with_reducible assumption); rfl; (conv => whnf)) | (refine ⟨⟨by omega, by omega⟩, ?_⟩; (conv => whnf))))
    exact ⟨rfl, _, ⟨k, A1, c1, w, A2, c2⟩, rfl, rfl, by rw [hpr _ rfl]; exact T1, T2, T3⟩
  · have h : z2 = false := h
    have hkj : ¬ (rs.map PR.k)[j]? = some k := by rw [h] at hz2; exact of_decide_eq_false hz2.symm
    replace hpr : ∀ r : PR, r.k = k → putR rs r j = rs.take j ++ r :: rs.drop j := fun r hr => by rw [hpr r hr, if_neg hkj]
    refine short [0, 1, 6, 7] [.pointer (some ⟨t, 0, none⟩), .slice KA k.length kc, .pointer (some ⟨p, 0, none⟩), .int .i64 (j : Int)] rfl fun ρ => ?_
    ((conv => whnf); repeat (first | (apply load_at; (conv => lhs; whnf); (with_reducible assumption); rfl; (conv => whnf)) | (apply load_at; (conv => lhs; rw [add_plain, add_plain]); (with_reducible assumption); rfl; (conv => whnf)) | (apply loads_at; (conv => lhs; whnf); (with_reducible assumption); rfl; (conv => whnf)) | (refine ⟨⟨by omega, by omega⟩, ?_⟩; (conv => whnf))))
    refine draw_tree_at tab_ok (by kernel_rfl) [4, 14, 1000] (DT.row [0, 1, 2, 3, 4, 5, 6, 8, 11, 12, 13, 14, 15, 16] (.fork (DT.row [7, 9, 10, 17, 18, 19, 20] .nil) (DT.row [9, 7, 10, 17, 18, 19, 20] .nil))) (by kernel_rfl) (F6.only t) (only_ext rfl) ?_
    have hO := only_at hB3
    have hGG : ∀ {F' : Heap}, Ext F6 F' → Ext (F6.only t) F' := fun h => (only_ext rfl).trans h
    have hcut1 : ∀ F', Ext F6 F' → RowAt F' (if c = 0 then A else A.map (·.add (0 * 2))) (prsV (rs.take j)) := fun F' hE => row_cutP 0 j c (hrF3.mono hE) (by omega) (by omega)
    have hcut2 : ∀ F', Ext F6 F' → RowAt F' (if c = j then A else A.map (·.add (j * 2))) (prsV (rs.drop j)) := fun F' hE => by
      have := row_cutP j (rs.length - j) c (hrF3.mono hE) (by omega) (by omega)
      rw [List.take_of_length_le (by rw [List.length_drop]; exact Nat.le_refl _)] at this
      exact this
    have hnew : ∀ {F0 F' : Heap}, Ext F6 F' → True := fun _ => trivial
    clear hnew
    ((conv => whnf); repeat (first | (apply load_at; (conv => lhs; whnf); (with_reducible assumption); rfl; (conv => whnf)) | (apply load_at; (conv => lhs; rw [add_plain, add_plain]); (with_reducible assumption); rfl; (conv => whnf)) | (apply loads_at; (conv => lhs; whnf); (with_reducible assumption); rfl; (conv => whnf)) | (refine ⟨⟨by omega, by omega⟩, ?_⟩; (conv => whnf))))
    refine ⟨?_, ?_⟩
    · ((conv => whnf); repeat (first | (apply load_at; (conv => lhs; whnf); (with_reducible assumption); rfl; (conv => whnf)) | (apply load_at; (conv => lhs; rw [add_plain, add_plain]); (with_reducible assumption); rfl; (conv => whnf)) | (apply loads_at; (conv => lhs; whnf); (with_reducible assumption); rfl; (conv => whnf)) | (refine ⟨⟨by omega, by omega⟩, ?_⟩; (conv => whnf))))
      refine append_mine tab_ok rfl rfl ?hq rfl rfl ⟨_, rfl, fun k h => by cases h⟩ ⟨_, rfl, rfl⟩ (by decide) (Mine.nil F6 F6 _ _ (Ext.refl _)) (m := j) (ys := prsV (rs.take j)) (y := .slice (if c = 0 then A else A.map (·.add (0 * 2))) j c) ⟨by rw [prsV_len, List.length_take, Nat.min_eq_left hnl], .inl ⟨_, _, rfl, hcut1 _ (Ext.refl _)⟩⟩ (prs_one _) (by show 2 * (0 + j) * 48 ≤ _; omega) fun s7 F7 hM7 _ => ?_
      case hq => rfl
      rw [Nat.zero_add, List.nil_append] at hM7
      have E7 := hM7.ext
      have hnew : ∀ (F' : Heap) (hE : Ext F6 F') {A' : Option Addr} {n' c' : Nat} {vs : List Value} (a : Addr), A' = some a → Mine F6 F' (.slice A' n' c') 75 2 n' vs → F6 a.block = none := fun F' hE A' n' c' vs a ha h => h.fresh _ (by rw [ha]; rfl)
      (conv => whnf)
      refine ⟨hGG E7, E7, ?_⟩
      have hp7 := E7 _ _ hB_p
      ((conv => whnf); repeat (first | (apply load_at; (conv => lhs; whnf); (with_reducible assumption); rfl; (conv => whnf)) | (apply load_at; (conv => lhs; rw [add_plain, add_plain]); (with_reducible assumption); rfl; (conv => whnf)) | (apply loads_at; (conv => lhs; whnf); (with_reducible assumption); rfl; (conv => whnf)) | (refine ⟨⟨by omega, by omega⟩, ?_⟩; (conv => whnf))))
      refine new_step (prO (.slice A1 k.length c1) (.slice A2 w.length c2)) rfl fun g h0_g => ?_
      have hE_g := Ext.new h0_g (prO (.slice A1 k.length c1) (.slice A2 w.length c2))
      have hB_g := Heap.put_same F7 g (prO (.slice A1 k.length c1) (.slice A2 w.length c2))
      generalize F7.put g _ = F8 at hE_g hB_g ⊢
      (conv => whnf)
      refine ⟨hGG (E7.trans hE_g), ?_⟩
      ((conv => whnf); repeat (first | (apply load_at; (conv => lhs; whnf); (with_reducible assumption); rfl; (conv => whnf)) | (apply load_at; (conv => lhs; rw [add_plain, add_plain]); (with_reducible assumption); rfl; (conv => whnf)) | (apply loads_at; (conv => lhs; whnf); (with_reducible assumption); rfl; (conv => whnf)) | (refine ⟨⟨by omega, by omega⟩, ?_⟩; (conv => whnf))))
      refine append_mine tab_ok (m := 1) (ys := (prA ⟨k, A1, c1, w, A2, c2⟩).toList) (y := .slice (some ⟨g, 0, none⟩) 1 1) rfl rfl rfl rfl rfl ⟨_, rfl, fun k h => by cases h⟩ ⟨_, rfl, rfl⟩ (by decide) (hM7.mono hE_g) ⟨rfl, .inl ⟨_, _, rfl, row_blk hB_g⟩⟩ (pr_one _) (by show 2 * (j + 1) * 48 ≤ _; omega) fun s10 F10 hM10 _ => ?_
      have E10 := hM10.ext
      (conv => whnf)
      refine ⟨hGG E10, ?_⟩
      ((conv => whnf); repeat (first | (apply load_at; (conv => lhs; whnf); (with_reducible assumption); rfl; (conv => whnf)) | (apply load_at; (conv => lhs; rw [add_plain, add_plain]); (with_reducible assumption); rfl; (conv => whnf)) | (apply loads_at; (conv => lhs; whnf); (with_reducible assumption); rfl; (conv => whnf)) | (refine ⟨⟨by omega, by omega⟩, ?_⟩; (conv => whnf))))
      refine append_mine tab_ok rfl rfl ?hq2 rfl rfl ⟨_, rfl, fun k h => by cases h⟩ ⟨_, rfl, rfl⟩ (by decide) hM10 (m := rs.length - j) (ys := prsV (rs.drop j)) (y := .slice (if c = j then A else A.map (·.add (j * 2))) (rs.length - j) (c - j)) ⟨by rw [prsV_len, List.length_drop], .inl ⟨_, _, rfl, hcut2 _ E10⟩⟩ (prs_one _) (by show 2 * (j + 1 + (rs.length - j)) * 48 ≤ _; omega) fun s17 F17 hM17 _ => ?_
      case hq2 => rfl
      have E17 := hM17.ext
      (conv => whnf)
      obtain ⟨A17, c17, rfl, hc17, hr17⟩ := hM17.own.row
      have hrr : RowAt F17 A17 (prsV (rs.take j ++ ⟨k, A1, c1, w, A2, c2⟩ :: rs.drop j)) := by
        rw [prsV_append, prsV_cons, ← List.append_assoc]; exact hr17
      have hln : (rs.take j ++ ⟨k, A1, c1, w, A2, c2⟩ :: rs.drop j).length = j + 1 + (rs.length - j) := by
        rw [List.length_append, List.length_take, List.length_cons, List.length_drop, Nat.min_eq_left hnl]; omega
      obtain ⟨T1, T2, T3⟩ := hT0.store (E3.trans E17) (rs' := rs.take j ++ ⟨k, A1, c1, w, A2, c2⟩ :: rs.drop j) (c := c17) (A := A17) (by rw [hln]; exact hc17) hrr (fun a ha => E3.none (hnew _ E17 a ha hM17)) (fun x hx => by
        rcases List.mem_append.1 hx with hx | hx
        · exact (hok x (List.mem_of_mem_take hx)).mono (gain_ext hbase)
        · rcases List.mem_cons.1 hx with rfl | hx
          · exact ⟨⟨rowAt_gain (r1.mono E17) f1, rowAt_gain (r2.mono E17) f2, hc1, hc2⟩, hkl, hvl⟩
          · exact (hok x (List.mem_of_mem_drop hx)).mono (gain_ext hbase))
      rw [hln] at T1 T3
      ((conv => whnf); repeat (first | (apply load_at; (conv => lhs; whnf); (with_reducible assumption); rfl; (conv => whnf)) | (apply load_at; (conv => lhs; rw [add_plain, add_plain]); (with_reducible assumption); rfl; (conv => whnf)) | (apply loads_at; (conv => lhs; whnf); (with_reducible assumption); rfl; (conv => whnf)) | (refine ⟨⟨by omega, by omega⟩, ?_⟩; (conv => whnf))))
      refine store_step t 0 _ #[.slice A17 (j + 1 + (rs.length - j)) c17] rfl (E17 _ _ hB3) rfl rfl (.inl (Nat.le_refl 0)) (one_slice _ _ _) ?_
      ((conv => whnf); repeat (first | (apply load_at; (conv => lhs; whnf); (with_reducible assumption); rfl; (conv => whnf)) | (apply load_at; (conv => lhs; rw [add_plain, add_plain]); (with_reducible assumption); rfl; (conv => whnf)) | (apply loads_at; (conv => lhs; whnf); (with_reducible assumption); rfl; (conv => whnf)) | (refine ⟨⟨by omega, by omega⟩, ?_⟩; (conv => whnf))))
      exact ⟨rfl, _, ⟨k, A1, c1, w, A2, c2⟩, rfl, rfl, by rw [hpr _ rfl]; exact T1, T2, T3⟩
    · ((conv => whnf); repeat (first | (apply load_at; (conv => lhs; whnf); (with_reducible assumption); rfl; (conv => whnf)) | (apply load_at; (conv => lhs; rw [add_plain, add_plain]); (with_reducible assumption); rfl; (conv => whnf)) | (apply loads_at; (conv => lhs; whnf); (with_reducible assumption); rfl; (conv => whnf)) | (refine ⟨⟨by omega, by omega⟩, ?_⟩; (conv => whnf))))
      refine new_step (prO (.slice A1 k.length c1) (.slice A2 w.length c2)) rfl fun g h0_g => ?_
      have hE_g := Ext.new h0_g (prO (.slice A1 k.length c1) (.slice A2 w.length c2))
      have hB_g := Heap.put_same F6 g (prO (.slice A1 k.length c1) (.slice A2 w.length c2))
      generalize F6.put g _ = F8 at hE_g hB_g ⊢
      (conv => whnf)
      refine ⟨hGG hE_g, ?_⟩
      ((conv => whnf); repeat (first | (apply load_at; (conv => lhs; whnf); (with_reducible assumption); rfl; (conv => whnf)) | (apply load_at; (conv => lhs; rw [add_plain, add_plain]); (with_reducible assumption); rfl; (conv => whnf)) | (apply loads_at; (conv => lhs; whnf); (with_reducible assumption); rfl; (conv => whnf)) | (refine ⟨⟨by omega, by omega⟩, ?_⟩; (conv => whnf))))
      refine append_mine tab_ok rfl rfl ?hq rfl rfl ⟨_, rfl, fun k h => by cases h⟩ ⟨_, rfl, rfl⟩ (by decide) (Mine.nil F8 F8 _ _ (Ext.refl _)) (m := j) (ys := prsV (rs.take j)) (y := .slice (if c = 0 then A else A.map (·.add (0 * 2))) j c) ⟨by rw [prsV_len, List.length_take, Nat.min_eq_left hnl], .inl ⟨_, _, rfl, hcut1 _ hE_g⟩⟩ (prs_one _) (by show 2 * (0 + j) * 48 ≤ _; omega) fun s7 F7 hM7 _ => ?_
      case hq => rfl
      rw [Nat.zero_add, List.nil_append] at hM7
      have E7 := hM7.ext
      have hnew : ∀ (F' : Heap) (hE : Ext F6 F') {A' : Option Addr} {n' c' : Nat} {vs : List Value} (a : Addr), A' = some a → Mine F8 F' (.slice A' n' c') 75 2 n' vs → F6 a.block = none := fun F' hE A' n' c' vs a ha h => hE_g.none (h.fresh _ (by rw [ha]; rfl))
      have hB_g7 := E7 _ _ hB_g
      (conv => whnf)
      refine ⟨hGG (hE_g.trans E7), E7, ?_⟩
      ((conv => whnf); repeat (first | (apply load_at; (conv => lhs; whnf); (with_reducible assumption); rfl; (conv => whnf)) | (apply load_at; (conv => lhs; rw [add_plain, add_plain]); (with_reducible assumption); rfl; (conv => whnf)) | (apply loads_at; (conv => lhs; whnf); (with_reducible assumption); rfl; (conv => whnf)) | (refine ⟨⟨by omega, by omega⟩, ?_⟩; (conv => whnf))))
      refine append_mine tab_ok (m := 1) (ys := (prA ⟨k, A1, c1, w, A2, c2⟩).toList) (y := .slice (some ⟨g, 0, none⟩) 1 1) rfl rfl rfl rfl rfl ⟨_, rfl, fun k h => by cases h⟩ ⟨_, rfl, rfl⟩ (by decide) hM7 ⟨rfl, .inl ⟨_, _, rfl, row_blk hB_g7⟩⟩ (pr_one _) (by show 2 * (j + 1) * 48 ≤ _; omega) fun s10 F10 hM10 _ => ?_
      have E10 := hE_g.trans hM10.ext
      (conv => whnf)
      refine ⟨hGG E10, ?_⟩
      ((conv => whnf); repeat (first | (apply load_at; (conv => lhs; whnf); (with_reducible assumption); rfl; (conv => whnf)) | (apply load_at; (conv => lhs; rw [add_plain, add_plain]); (with_reducible assumption); rfl; (conv => whnf)) | (apply loads_at; (conv => lhs; whnf); (with_reducible assumption); rfl; (conv => whnf)) | (refine ⟨⟨by omega, by omega⟩, ?_⟩; (conv => whnf))))
      refine append_mine tab_ok rfl rfl ?hq2 rfl rfl ⟨_, rfl, fun k h => by cases h⟩ ⟨_, rfl, rfl⟩ (by decide) hM10 (m := rs.length - j) (ys := prsV (rs.drop j)) (y := .slice (if c = j then A else A.map (·.add (j * 2))) (rs.length - j) (c - j)) ⟨by rw [prsV_len, List.length_drop], .inl ⟨_, _, rfl, hcut2 _ E10⟩⟩ (prs_one _) (by show 2 * (j + 1 + (rs.length - j)) * 48 ≤ _; omega) fun s17 F17 hM17 _ => ?_
      case hq2 => rfl
      have E17 := hE_g.trans hM17.ext
      (conv => whnf)
      obtain ⟨A17, c17, rfl, hc17, hr17⟩ := hM17.own.row
      have hrr : RowAt F17 A17 (prsV (rs.take j ++ ⟨k, A1, c1, w, A2, c2⟩ :: rs.drop j)) := by
        rw [prsV_append, prsV_cons, ← List.append_assoc]; exact hr17
      have hln : (rs.take j ++ ⟨k, A1, c1, w, A2, c2⟩ :: rs.drop j).length = j + 1 + (rs.length - j) := by
        rw [List.length_append, List.length_take, List.length_cons, List.length_drop, Nat.min_eq_left hnl]; omega
      obtain ⟨T1, T2, T3⟩ := hT0.store (E3.trans E17) (rs' := rs.take j ++ ⟨k, A1, c1, w, A2, c2⟩ :: rs.drop j) (c := c17) (A := A17) (by rw [hln]; exact hc17) hrr (fun a ha => E3.none (hnew _ E17 a ha hM17)) (fun x hx => by
        rcases List.mem_append.1 hx with hx | hx
        · exact (hok x (List.mem_of_mem_take hx)).mono (gain_ext hbase)
        · rcases List.mem_cons.1 hx with rfl | hx
          · exact ⟨⟨rowAt_gain (r1.mono E17) f1, rowAt_gain (r2.mono E17) f2, hc1, hc2⟩, hkl, hvl⟩
          · exact (hok x (List.mem_of_mem_drop hx)).mono (gain_ext hbase))
      rw [hln] at T1 T3
      ((conv => whnf); repeat (first | (apply load_at; (conv => lhs; whnf); (with_reducible assumption); rfl; (conv => whnf)) | (apply load_at; (conv => lhs; rw [add_plain, add_plain]); (with_reducible assumption); rfl; (conv => whnf)) | (apply loads_at; (conv => lhs; whnf); (with_reducible assumption); rfl; (conv => whnf)) | (refine ⟨⟨by omega, by omega⟩, ?_⟩; (conv => whnf))))
      refine store_step t 0 _ #[.slice A17 (j + 1 + (rs.length - j)) c17] rfl (E17 _ _ hB3) rfl rfl (.inl (Nat.le_refl 0)) (one_slice _ _ _) ?_
      ((conv => whnf); repeat (first | (apply load_at; (conv => lhs; whnf); (with_reducible assumption); rfl; (conv => whnf)) | (apply load_at; (conv => lhs; rw [add_plain, add_plain]); (with_reducible assumption); rfl; (conv => whnf)) | (apply loads_at; (conv => lhs; whnf); (with_reducible assumption); rfl; (conv => whnf)) | (refine ⟨⟨by omega, by omega⟩, ?_⟩; (conv => whnf))))
      exact ⟨rfl, _, ⟨k, A1, c1, w, A2, c2⟩, rfl, rfl, by rw [hpr _ rfl]; exact T1, T2, T3⟩
end Go.Proofs.Ytlkdbmoocajjlaa.Al

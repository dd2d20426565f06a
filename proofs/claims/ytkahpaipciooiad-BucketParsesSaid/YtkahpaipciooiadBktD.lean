/- Buckets: the reference's Put, over what is known of memory. -/
import Derived.Test.YtkahpaipciooiadBktC
namespace Go.Proofs.Ytkahpaipciooiad.Al
open Go Go.Al Go.Proofs Go.RowKit
set_option maxHeartbeats 8000000
set_option maxRecDepth 100000
set_option linter.unusedVariables false
set_option linter.unusedSimpArgs false
theorem rput (d nx : Int) (rs : List PR) (A : Option Addr) (c : Nat) (F : Heap) (hr : RowAt F A (prsV rs)) (hp : ∀ r ∈ rs, PrOk F r) (hs : Sm rs) :
    FnK Try.prog 16 #[.agg (bkC d nx (.slice A rs.length c))] F (fun v F' => PutR F ⟨d, nx, rs.map pd⟩ v F') := by
  have hm := mayB_iff ⟨d, nx, rs.map pd⟩
  have hmy := fun G hg hg2 => rmay d nx rs A c G hg hg2 hs
  have hkp : ∀ (j : Nat) (r : PR), rs[j]? = some r → (rs.map pd)[j]? = some (pd r) := fun j r h => by rw [List.getElem?_map, h, Option.map_some]
  have hlen : (rs.map pd).length = rs.length := List.length_map _
  unfold PutR
  generalize hps : rs.map pd = ps at hm hkp hmy hlen ⊢
  generalize mayB ⟨d, nx, ps⟩ = q at hm hmy ⊢
  have hpage : pageB ⟨d, nx, ps⟩ = (headB ⟨d, nx, ps⟩ ++ ps.flatMap prB) ++ List.replicate (240 - (headB ⟨d, nx, ps⟩ ++ ps.flatMap prB).length) 0 := rfl
  have hbl : MayP ⟨d, nx, ps⟩ → (headB ⟨d, nx, ps⟩).length + sumP ps ≤ 240 := fun h => by rw [headB_len]; exact h.1
  generalize pageB ⟨d, nx, ps⟩ = page at hpage ⊢
  obtain ⟨hl, hsm⟩ := hs
  (refine fn_walk tab_ok Try.func16 rfl rfl rfl rfl ?_; (conv => whnf))
  refine new_step (bkO d nx (.slice A rs.length c)) rfl fun b h0_b => ?_
  have hE_b := Ext.new h0_b (bkO d nx (.slice A rs.length c))
  have hB_b := Heap.put_same F b (bkO d nx (.slice A rs.length c))
  generalize F.put b _ = F1 at hE_b hB_b ⊢
  ((conv => whnf); repeat (first | (apply load_at; (conv => lhs; whnf); (with_reducible assumption); rfl; (conv => whnf)) | (apply loads_at; (conv => lhs; whnf); (with_reducible assumption); rfl; (conv => whnf)) | (refine ⟨⟨by omega, by omega⟩, ?_⟩; (conv => whnf))))
  refine call_of (hmy F1 (hr.mono hE_b) (fun r hm => (hp r hm).mono hE_b)) ?_
  rintro v F2 ⟨rfl, hE2⟩
  have hB2 := hE2 _ _ hB_b
  replace hE2 := hE_b.trans hE2
  cases q with
  | false =>
    ((conv => whnf); repeat (first | (apply load_at; (conv => lhs; whnf); (with_reducible assumption); rfl; (conv => whnf)) | (apply loads_at; (conv => lhs; whnf); (with_reducible assumption); rfl; (conv => whnf)) | (refine ⟨⟨by omega, by omega⟩, ?_⟩; (conv => whnf))))
    exact .inr ⟨rfl, rfl, hE2⟩
  | true =>
  replace hm := hm.1 rfl
  replace hbl := hbl hm
  obtain ⟨e1, e2⟩ := put_head hm
  dsimp only at e1 e2
  clear hm hB_b hE_b
  ((conv => whnf); repeat (first | (apply load_at; (conv => lhs; whnf); (with_reducible assumption); rfl; (conv => whnf)) | (apply loads_at; (conv => lhs; whnf); (with_reducible assumption); rfl; (conv => whnf)) | (refine ⟨⟨by omega, by omega⟩, ?_⟩; (conv => whnf))))
  refine new_step (.cells #[.int .u8 66, .int .u8 (IntKind.u8.wrap d)] 5) rfl fun g h0_g => ?_
  have hE_g := Ext.new h0_g (.cells #[.int .u8 66, .int .u8 (IntKind.u8.wrap d)] 5)
  have hB_g := Heap.put_same F2 g (.cells #[.int .u8 66, .int .u8 (IntKind.u8.wrap d)] 5)
  generalize F2.put g _ = F3 at hE_g hB_g ⊢
  have hB3 := hE_g _ _ hB2
  replace hE_g := hE2.trans hE_g
  have hrow := row_blk hB_g
  have hbs : (#[Value.int .u8 66, .int .u8 (IntKind.u8.wrap d)] : Array Value).toList = bytesOf [66, byteAt d 0] := by rw [wrap_byte]; rfl
  rw [hbs] at hrow
  have p4 := rputG 4 (.inr (.inr (.inl rfl))) [66, byteAt d 0] (some ⟨g, 0, none⟩) 2 nx F3 hrow (by simp)
  rw [e1] at p4
  generalize hh4 : [66, byteAt d 0] ++ beM 4 nx = h4 at p4 e2
  ((conv => whnf); repeat (first | (apply load_at; (conv => lhs; whnf); (with_reducible assumption); rfl; (conv => whnf)) | (apply loads_at; (conv => lhs; whnf); (with_reducible assumption); rfl; (conv => whnf)) | (refine ⟨⟨by omega, by omega⟩, ?_⟩; (conv => whnf))))
  refine call_of p4 ?_
  rintro v F4 hM4
  have hB4 := hM4.ext _ _ hB3
  replace hM4 := hM4.down hE_g
  obtain ⟨A4, c4, rfl, hc4, hR4⟩ := hM4.own.row
  have hl4 : h4.length ≤ 1000 := by rw [← hh4]; simp [beM_len]
  have p2 := rputG 2 (.inr (.inl rfl)) h4 A4 c4 (ps.length : Int) F4 hR4 (by omega)
  rw [e2, hlen] at p2
  generalize headB ⟨d, nx, ps⟩ = hd at p2 hpage hbl
  ((conv => whnf); repeat (first | (apply load_at; (conv => lhs; whnf); (with_reducible assumption); rfl; (conv => whnf)) | (apply loads_at; (conv => lhs; whnf); (with_reducible assumption); rfl; (conv => whnf)) | (refine ⟨⟨by omega, by omega⟩, ?_⟩; (conv => whnf))))
  refine call_of p2 ?_
  rintro v F5 hM5
  have hB5 := hM5.ext _ _ hB4
  replace hM5 := hM5.down hM4.ext
  clear hM4 hR4 hrow p4 p2 hB4 hB3 hB_g hE_g hB2 e1 e2 hbs hh4
  have hM0 : Mine F F5 v 5 1 (hd ++ (ps.take 0).flatMap prB).length (bytesOf (hd ++ (ps.take 0).flatMap prB)) := by simpa using hM5
  ((conv => whnf); repeat (first | (apply load_at; (conv => lhs; whnf); (with_reducible assumption); rfl; (conv => whnf)) | (apply loads_at; (conv => lhs; whnf); (with_reducible assumption); rfl; (conv => whnf)) | (refine ⟨⟨by omega, by omega⟩, ?_⟩; (conv => whnf))))
  refine loop_slots [1, 4, 5] (fun mm vs F' => ∃ (j : Nat) (S : Value), j + mm = rs.length ∧ vs = [.pointer (some ⟨b, 0, none⟩), S, .int .i64 (j : Int)] ∧ F' b = some (bkO d nx (.slice A rs.length c)) ∧ Mine F F' S 5 1 (hd ++ (ps.take j).flatMap prB).length (bytesOf (hd ++ (ps.take j).flatMap prB))) rs.length ⟨0, v, by omega, rfl, hB5, hM0⟩ ?_
  clear hM0 hM5 hB5 hE2
  rintro mm vs F6 ρ ⟨j, S, hjm, rfl, hB6, hM⟩
  ((conv => whnf); repeat (first | (apply load_at; (conv => lhs; whnf); (with_reducible assumption); rfl; (conv => whnf)) | (apply loads_at; (conv => lhs; whnf); (with_reducible assumption); rfl; (conv => whnf)) | (refine ⟨⟨by omega, by omega⟩, ?_⟩; (conv => whnf))))
  refine cond_split (fun h => ?_) (fun h => ?_)
  · have hj : j < rs.length := by have := of_decide_eq_true h; omega
    obtain ⟨ad, rfl⟩ := hr.some (by rw [prsV_len]; omega)
    have hx : rs[j]? = some rs[j] := List.getElem?_eq_getElem hj
    have hL := fun (K : Value → Prop) => pr_load (K := K) (hr.mono hM.ext) hj
    have hst := flat_pr_take (hkp j _ hx)
    have hle := flat_pr_le ps j
    have hle2 := flat_pr_le ps (j + 1)
    rw [hst, List.length_append, prB_len] at hle2
    have hpb : prB (pd rs[j]) = [byteAt rs[j].k.length 0, byteAt rs[j].v.length 0] ++ (rs[j].k ++ rs[j].v) := rfl
    have hpz : psz (pd rs[j]) = 2 + rs[j].k.length + rs[j].v.length := rfl
    have hok := hp rs[j] (List.getElem_mem hj)
    have hsz := hsm rs[j] (List.getElem_mem hj)
    generalize rs[j] = r at hL hok hpb hsz hst hpz hle2
    rw [hpb] at hst
    clear hpb
    rw [hpz] at hle2
    clear hpz
    generalize (ps.take j).flatMap prB = body at hst hM hle hle2
    generalize hout : hd ++ body = out at hM
    have hol : out.length ≤ 240 := by rw [← hout, List.length_append]; omega
    have hol2 : out.length + (2 + r.k.length + r.v.length) ≤ 240 := by rw [← hout, List.length_append]; omega
    obtain ⟨k, A1, c1, w, B1, cc1⟩ := r
    dsimp only at hst hsz hol2
    ((conv => whnf); repeat (first | (apply load_at; (conv => lhs; whnf); (with_reducible assumption); rfl; (conv => whnf)) | (apply loads_at; (conv => lhs; whnf); (with_reducible assumption); rfl; (conv => whnf)) | (refine ⟨⟨by omega, by omega⟩, ?_⟩; (conv => whnf))))
    refine hL _ ?_
    (conv => whnf)
    refine new_step (zeroP) rfl fun u h0_u => ?_
    have hU_u := Heap.put_same F6 u (zeroP)
    have hX_u := fun o => (ext_put_put h0_u (o := zeroP) (o' := o))
    generalize F6.put u (zeroP) = F7 at hU_u hX_u ⊢
    (conv => whnf)
    refine store_step u 0 _ (prC (.slice A1 k.length c1) (.slice B1 w.length cc1)) rfl hU_u rfl rfl (.inl (Nat.le_refl 0)) (os2 _ _ _ _ _ _) ?_
    have hB_u := Heap.put_same F7 u (prO (.slice A1 k.length c1) (.slice B1 w.length cc1))
    have hE_u := hX_u (prO (.slice A1 k.length c1) (.slice B1 w.length cc1))
    clear hU_u hX_u
    generalize F7.put u _ = F7 at hB_u hE_u ⊢
    replace hM := hM.mono hE_u
    have hB7 := hE_u _ _ hB6
    ((conv => whnf); repeat (first | (apply load_at; (conv => lhs; whnf); (with_reducible assumption); rfl; (conv => whnf)) | (apply loads_at; (conv => lhs; whnf); (with_reducible assumption); rfl; (conv => whnf)) | (refine ⟨⟨by omega, by omega⟩, ?_⟩; (conv => whnf))))
    refine new_step (.cells #[.int .u8 (IntKind.u8.wrap (k.length : Int)), .int .u8 (IntKind.u8.wrap (w.length : Int))] 5) rfl fun g h0_g => ?_
    have hE_g := Ext.new h0_g (.cells #[.int .u8 (IntKind.u8.wrap (k.length : Int)), .int .u8 (IntKind.u8.wrap (w.length : Int))] 5)
    have hB_g := Heap.put_same F7 g (.cells #[.int .u8 (IntKind.u8.wrap (k.length : Int)), .int .u8 (IntKind.u8.wrap (w.length : Int))] 5)
    generalize F7.put g _ = F8 at hE_g hB_g ⊢
    have hU8 := hE_g _ _ hB_u
    have hB8 := hE_g _ _ hB7
    replace hM := hM.mono hE_g
    have hrow := row_blk hB_g
    have hbs : (#[Value.int .u8 (IntKind.u8.wrap (k.length : Int)), .int .u8 (IntKind.u8.wrap (w.length : Int))] : Array Value).toList = bytesOf [byteAt k.length 0, byteAt w.length 0] := by rw [wrap_byte, wrap_byte]; rfl
    rw [hbs] at hrow
    (conv => whnf)
    refine append_mine tab_ok rfl rfl rfl rfl rfl ⟨_, rfl, fun k h => by cases h⟩ ⟨_, rfl, rfl⟩ (by decide) hM (m := 2) (ys := bytesOf [byteAt k.length 0, byteAt w.length 0]) (y := .slice (some ⟨g, 0, none⟩) 2 2) ⟨rfl, .inl ⟨_, _, rfl, hrow⟩⟩ (hone_bytes _) (by show 2 * (out.length + 2) * 1 ≤ _; omega) fun S2 F9 hM9 hk9 => ?_
    have hU9 := hk9 _ _ hU8 (hM.own.blk_ne hU8 (by decide))
    rw [← bytes_app] at hM9
    obtain ⟨A9, c9, rfl, hc9, hR9⟩ := hM9.own.row
    have hB9 := hk9 _ _ hB8 (hM.own.blk_ne hB8 (by decide))
    (conv => whnf)
    refine draw_cut (fun env' F' => ∃ S', Mine F F' S' 5 1 (hd ++ (ps.take (j + 1)).flatMap prB).length (bytesOf (hd ++ (ps.take (j + 1)).flatMap prB)) ∧ F' b = some (bkO d nx (.slice (some ad) rs.length c)) ∧ env' 1 = .pointer (some ⟨b, 0, none⟩) ∧ env' 4 = S' ∧ env' 5 = .int .i64 (j : Int)) (fun K hK => ?_) ?_
    · refine draw_tree_at tab_ok (by kernel_rfl) [2, 5] (DT.row [0, 1, 2, 4, 5, 3, 6, 7] .nil) (by kernel_rfl) (F9.only u) (only_ext rfl) ?_
      (conv => whnf)
      refine load_blk (only_at hU9) rfl rfl ?_
      (conv => whnf)
      refine load_blk (only_at hU9) rfl rfl ?_
      (conv => whnf)
      refine append_mine tab_ok rfl rfl rfl rfl rfl ⟨_, rfl, fun k h => by cases h⟩ ⟨_, rfl, rfl⟩ (by decide) hM9 (m := k.length) (ys := bytesOf k) (y := .slice A1 k.length c1) ⟨by rw [bytes_len]; exact (Nat.mul_one _).symm, .inl ⟨_, _, rfl, (hok.mono hM9.ext).1⟩⟩ (hone_bytes _) (by show 2 * (out.length + 2 + k.length) * 1 ≤ _; omega) fun S10 F10 hM10 hk10 => ?_
      have hU10 := hk10 _ _ hU9 (hM9.own.blk_ne hU9 (by decide))
      have hB10 := hk10 _ _ hB9 (hM9.own.blk_ne hB9 (by decide))
      rw [← bytes_app] at hM10
      refine ⟨only_ext (by rw [hU9, hU10]), ?_⟩
      (conv => whnf)
      refine append_mine tab_ok rfl rfl rfl rfl rfl ⟨_, rfl, fun k h => by cases h⟩ ⟨_, rfl, rfl⟩ (by decide) hM10 (m := w.length) (ys := bytesOf w) (y := .slice B1 w.length cc1) ⟨by rw [bytes_len]; exact (Nat.mul_one _).symm, .inl ⟨_, _, rfl, (hok.mono hM10.ext).2.1⟩⟩ (hone_bytes _) (by show 2 * (out.length + 2 + k.length + w.length) * 1 ≤ _; omega) fun S11 F11 hM11 hk11 => ?_
      have hU11 := hk11 _ _ hU10 (hM10.own.blk_ne hU10 (by decide))
      have hB11 := hk11 _ _ hB10 (hM10.own.blk_ne hB10 (by decide))
      rw [← bytes_app] at hM11
      refine ⟨only_ext (by rw [hU9, hU11]), ?_⟩
      have hfl : out ++ [byteAt k.length 0, byteAt w.length 0] ++ k ++ w = hd ++ (ps.take (j + 1)).flatMap prB := by
        rw [hst, ← List.append_assoc, hout]
        simp
      have hfl2 : out.length + 2 + k.length + w.length = (hd ++ (ps.take (j + 1)).flatMap prB).length := by rw [← hfl]; simp; omega
      rw [hfl, hfl2] at hM11
      (conv => whnf)
      exact hK _ _ ⟨S11, hM11, hB11, rfl, rfl, rfl⟩
    · rintro env' F12 ⟨S12, hM12, hB12, q1, q4, q5⟩
      refine short [1, 4, 5] [.pointer (some ⟨b, 0, none⟩), S12, .int .i64 (j : Int)] (by simp only [List.map_cons, List.map_nil, q1, q4, q5]) fun ρ => ?_
      ((conv => whnf); repeat (first | (apply load_at; (conv => lhs; whnf); (with_reducible assumption); rfl; (conv => whnf)) | (apply loads_at; (conv => lhs; whnf); (with_reducible assumption); rfl; (conv => whnf)) | (refine ⟨⟨by omega, by omega⟩, ?_⟩; (conv => whnf))))
      refine ⟨mm - 1, by omega, j + 1, S12, by omega, ?_, hB12, hM12⟩
      rw [← wrap_succ (j := j) (by omega)]
      rfl
  · have hj : j = rs.length := by have := of_decide_eq_false h; omega
    subst hj
    have htk : ps.take rs.length = ps := by rw [← hlen, List.take_length]
    rw [htk] at hM
    have hol : (hd ++ ps.flatMap prB).length ≤ 240 := by rw [List.length_append, flat_prB]; exact hbl
    generalize hd ++ ps.flatMap prB = out at hM hpage hol
    subst hpage
    have hw : IntKind.i64.wrap (240 - (out.length : Int)) = ((240 - out.length : Nat) : Int) := by rw [IntKind.wrap_i64]; omega
    obtain ⟨A7, c7, rfl, hc7, hR7⟩ := hM.own.row
    ((conv => whnf); repeat (first | (apply load_at; (conv => lhs; whnf); (with_reducible assumption); rfl; (conv => whnf)) | (apply loads_at; (conv => lhs; whnf); (with_reducible assumption); rfl; (conv => whnf)) | (refine ⟨⟨by omega, by omega⟩, ?_⟩; (conv => whnf))))
    refine append_zeros tab_ok (m := 240 - out.length) (n := out.length) (s := .slice A7 out.length c7) rfl rfl (by show Value.int .i64 (IntKind.i64.wrap (240 - (out.length : Int))) = _; rw [hw]) rfl rfl ⟨_, rfl, rfl⟩ ⟨rfl, by decide, _, rfl, rfl⟩ rfl hM.own (by show 2 * (out.length + (240 - out.length)) * 1 ≤ _; omega) fun S7 F7 h1 h2 h3 => ?_
    have hfin : Mine F F7 S7 5 1 240 (bytesOf (out ++ List.replicate (240 - out.length) 0)) := by
      have e1 : out.length + (240 - out.length) = 240 := by omega
      have e2 : bytesOf out ++ List.replicate (240 - out.length) (Value.int .u8 0) = bytesOf (out ++ List.replicate (240 - out.length) 0) := by rw [bytes_app]; congr 1; simp [bytesOf]
      rw [e1, e2] at h1
      refine ⟨h1, fun b hb => ?_, h2.ext hM.ext hM.fresh⟩
      rcases h3 b hb with h | h
      · exact hM.fresh b h
      · exact hM.ext.none h
    (conv => whnf)
    exact .inl ⟨rfl, _, rfl, hfin⟩
end Go.Proofs.Ytkahpaipciooiad.Al

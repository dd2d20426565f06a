/- Buckets: bucket.Put and the reference's, over what is known of memory. -/
import Derived.Test.YtkahpaipciooiadBktB
namespace Go.Proofs.Ytkahpaipciooiad.Al
open Go Go.Al Go.Proofs Go.RowKit
set_option maxHeartbeats 8000000
set_option maxRecDepth 100000
set_option linter.unusedVariables false
set_option linter.unusedSimpArgs false
def prB (p : PD) : List UInt8 := [byteAt p.1.length 0, byteAt p.2.length 0] ++ (p.1 ++ p.2)
def headB (b : BD) : List UInt8 := [66, byteAt b.d 0] ++ beM 4 b.nx ++ beM 2 b.ps.length
def bodyB (b : BD) : List UInt8 := headB b ++ b.ps.flatMap prB
def pageB (b : BD) : List UInt8 := bodyB b ++ List.replicate (240 - (bodyB b).length) 0
theorem headB_len (b : BD) : (headB b).length = 8 := by unfold headB; simp [beM_len]
theorem prB_len (p : PD) : (prB p).length = psz p := by unfold prB psz; simp; omega
theorem flat_prB : ∀ (ps : List PD), (ps.flatMap prB).length = sumP ps := by
  intro ps
  induction ps with
  | nil => rfl
  | cons p ps ih => rw [List.flatMap_cons, List.length_append, ih, prB_len]; rfl
theorem bodyB_len (b : BD) : (bodyB b).length = 8 + sumP b.ps := by unfold bodyB; rw [List.length_append, headB_len, flat_prB]
theorem pageB_len {b : BD} (h : MayP b) : (pageB b).length = 240 := by
  unfold pageB
  rw [List.length_append, List.length_replicate, bodyB_len]
  have := h.1
  omega
theorem page_eq (out : List UInt8) (h : out.length ≤ 240) : putL (List.replicate 240 (Value.int .u8 0)) 0 (bytesOf out) = bytesOf (out ++ List.replicate (240 - out.length) 0) := by
  rw [putL_eq _ _ _ (by rw [bytes_len, List.length_replicate]; omega), List.take_zero, List.nil_append, Nat.zero_add, List.drop_replicate, bytes_len, bytes_app]
  congr 1
  simp [bytesOf]
theorem sumP_ge : ∀ (ps : List PD), 2 * ps.length ≤ sumP ps := by
  intro ps
  induction ps with
  | nil => exact Nat.le_refl _
  | cons p ps ih => show 2 * (ps.length + 1) ≤ (2 + p.1.length + p.2.length) + sumP ps; omega
theorem put_head {b : BD} (h : MayP b) : putM 4 [66, byteAt b.d 0] b.nx = [66, byteAt b.d 0] ++ beM 4 b.nx ∧ putM 2 ([66, byteAt b.d 0] ++ beM 4 b.nx) (b.ps.length : Int) = headB b := by
  obtain ⟨h1, h2, h3, h4, _⟩ := h
  have := sumP_ge b.ps
  refine ⟨?_, ?_⟩
  · unfold putM; rw [h4, cond_true]
  · have h5 : inM 2 (b.ps.length : Int) = true := by unfold inM; simp; omega
    unfold putM
    rw [h5, cond_true]
    rfl
theorem flat_pr_take {ps : List PD} {j : Nat} {p : PD} (h : ps[j]? = some p) : (ps.take (j + 1)).flatMap prB = (ps.take j).flatMap prB ++ prB p := by
  rw [List.take_add_one, h]
  simp
theorem flat_pr_le (ps : List PD) (j : Nat) : ((ps.take j).flatMap prB).length ≤ sumP ps := by
  rw [← flat_prB]
  conv => rhs; rw [← List.take_append_drop j ps]
  rw [List.flatMap_append, List.length_append]
  exact Nat.le_add_right _ _
/-- What Put hands back. -/
def PutR (F0 : Heap) (b : BD) (v : Value) (F : Heap) : Prop :=
  (mayB b = true ∧ ∃ S, v = .tuple #[S, .int .i64 0] ∧ Mine F0 F S 5 1 240 (bytesOf (pageB b))) ∨ (mayB b = false ∧ v = .tuple #[.slice none 0 0, .int .i64 1] ∧ Ext F0 F)
theorem put (d nx : Int) (rs : List PR) (A : Option Addr) (c : Nat) (F : Heap) (hr : RowAt F A (prsV rs)) (hp : ∀ r ∈ rs, PrOk F r) (hs : Sm rs) :
    FnK Try.prog 14 #[.agg (bkC d nx (.slice A rs.length c))] F (fun v F' => PutR F ⟨d, nx, rs.map pd⟩ v F') := by
  have hm := mayB_iff ⟨d, nx, rs.map pd⟩
  have hmy := fun G hg hg2 => may d nx rs A c G hg hg2 hs
  have hkp : ∀ (j : Nat) (r : PR), rs[j]? = some r → (rs.map pd)[j]? = some (pd r) := fun j r h => by rw [List.getElem?_map, h, Option.map_some]
  have hlen : (rs.map pd).length = rs.length := List.length_map _
  unfold PutR
  generalize hps : rs.map pd = ps at hm hkp hmy hlen ⊢
  generalize mayB ⟨d, nx, ps⟩ = q at hm hmy ⊢
  have hpage : pageB ⟨d, nx, ps⟩ = (headB ⟨d, nx, ps⟩ ++ ps.flatMap prB) ++ List.replicate (240 - (headB ⟨d, nx, ps⟩ ++ ps.flatMap prB).length) 0 := rfl
  have hbl : MayP ⟨d, nx, ps⟩ → (headB ⟨d, nx, ps⟩).length + sumP ps ≤ 240 := fun h => by rw [headB_len]; exact h.1
  generalize pageB ⟨d, nx, ps⟩ = page at hpage ⊢
  obtain ⟨hl, hsm⟩ := hs
  (refine fn_walk tab_ok Try.func14 rfl rfl rfl rfl ?_; (conv => whnf))
  refine new_step (bkO d nx (.slice A rs.length c)) rfl fun b h0_b => ?_
  have hE_b := Ext.new h0_b (bkO d nx (.slice A rs.length c))
  have hB_b := Heap.put_same F b (bkO d nx (.slice A rs.length c))
  generalize F.put b _ = F1 at hE_b hB_b ⊢
  ((conv => whnf); repeat (first | (apply load_at; (conv => lhs; whnf); (with_reducible assumption); rfl; (conv => whnf)) | (apply loads_at; (conv => lhs; whnf); (with_reducible assumption); rfl; (conv => whnf)) | (refine ⟨⟨by omega, by omega⟩, ?_⟩; (conv => whnf))))
  refine call_of (hmy F1 (hr.mono hE_b) (fun r hm => (hp r hm).mono hE_b)) ?_
  rintro v F2 ⟨rfl, hE2⟩
  have hB2 := hE2 _ _ hB_b
  replace hE2 := hE_b.trans hE2
  cases q with
  | false =>
    ((conv => whnf); repeat (first | (apply load_at; (conv => lhs; whnf); (with_reducible assumption); rfl; (conv => whnf)) | (apply loads_at; (conv => lhs; whnf); (with_reducible assumption); rfl; (conv => whnf)) | (refine ⟨⟨by omega, by omega⟩, ?_⟩; (conv => whnf))))
    exact .inr ⟨rfl, rfl, hE2⟩
  | true =>
  replace hm := hm.1 rfl
  replace hbl := hbl hm
  obtain ⟨e1, e2⟩ := put_head hm
  dsimp only at e1 e2
  clear hm hB_b hE_b
  ((conv => whnf); repeat (first | (apply load_at; (conv => lhs; whnf); (with_reducible assumption); rfl; (conv => whnf)) | (apply loads_at; (conv => lhs; whnf); (with_reducible assumption); rfl; (conv => whnf)) | (refine ⟨⟨by omega, by omega⟩, ?_⟩; (conv => whnf))))
  refine new_step (.cells #[.int .u8 66, .int .u8 (IntKind.u8.wrap d)] 5) rfl fun g h0_g => ?_
  have hE_g := Ext.new h0_g (.cells #[.int .u8 66, .int .u8 (IntKind.u8.wrap d)] 5)
  have hB_g := Heap.put_same F2 g (.cells #[.int .u8 66, .int .u8 (IntKind.u8.wrap d)] 5)
  generalize F2.put g _ = F3 at hE_g hB_g ⊢
  have hB3 := hE_g _ _ hB2
  replace hE_g := hE2.trans hE_g
  have hrow := row_blk hB_g
  have hbs : (#[Value.int .u8 66, .int .u8 (IntKind.u8.wrap d)] : Array Value).toList = bytesOf [66, byteAt d 0] := by rw [wrap_byte]; rfl
  rw [hbs] at hrow
  have p4 := putG 4 (.inr (.inr (.inl rfl))) [66, byteAt d 0] (some ⟨g, 0, none⟩) 2 nx F3 hrow (by simp)
  rw [e1] at p4
  generalize hh4 : [66, byteAt d 0] ++ beM 4 nx = h4 at p4 e2
  ((conv => whnf); repeat (first | (apply load_at; (conv => lhs; whnf); (with_reducible assumption); rfl; (conv => whnf)) | (apply loads_at; (conv => lhs; whnf); (with_reducible assumption); rfl; (conv => whnf)) | (refine ⟨⟨by omega, by omega⟩, ?_⟩; (conv => whnf))))
  refine call_of p4 ?_
  rintro v F4 hM4
  have hB4 := hM4.ext _ _ hB3
  replace hM4 := hM4.down hE_g
  obtain ⟨A4, c4, rfl, hc4, hR4⟩ := hM4.own.row
  have hl4 : h4.length ≤ 1000 := by rw [← hh4]; simp [beM_len]
  have p2 := putG 2 (.inr (.inl rfl)) h4 A4 c4 (ps.length : Int) F4 hR4 (by omega)
  rw [e2, hlen] at p2
  generalize headB ⟨d, nx, ps⟩ = hd at p2 hpage hbl
  ((conv => whnf); repeat (first | (apply load_at; (conv => lhs; whnf); (with_reducible assumption); rfl; (conv => whnf)) | (apply loads_at; (conv => lhs; whnf); (with_reducible assumption); rfl; (conv => whnf)) | (refine ⟨⟨by omega, by omega⟩, ?_⟩; (conv => whnf))))
  refine call_of p2 ?_
  rintro v F5 hM5
  have hB5 := hM5.ext _ _ hB4
  replace hM5 := hM5.down hM4.ext
  clear hM4 hR4 hrow p4 p2 hB4 hB3 hB_g hE_g hB2 e1 e2 hbs hh4
  have hM0 : Mine F F5 v 5 1 (hd ++ (ps.take 0).flatMap prB).length (bytesOf (hd ++ (ps.take 0).flatMap prB)) := by simpa using hM5
  ((conv => whnf); repeat (first | (apply load_at; (conv => lhs; whnf); (with_reducible assumption); rfl; (conv => whnf)) | (apply loads_at; (conv => lhs; whnf); (with_reducible assumption); rfl; (conv => whnf)) | (refine ⟨⟨by omega, by omega⟩, ?_⟩; (conv => whnf))))
  refine loop_slots [4, 25, 26, 27] (fun mm vs F' => ∃ (j : Nat) (S : Value), j + mm = rs.length ∧ vs = [S, .slice A rs.length c, .int .i64 (rs.length : Int), .int .i64 (j : Int)] ∧ Mine F F' S 5 1 (hd ++ (ps.take j).flatMap prB).length (bytesOf (hd ++ (ps.take j).flatMap prB))) rs.length ⟨0, v, by omega, rfl, hM0⟩ ?_
  clear hM0 hM5 hB5 hE2
  rintro mm vs F6 ρ ⟨j, S, hjm, rfl, hM⟩
  (conv => whnf)
  refine cond_split (fun h => ?_) (fun h => ?_)
  · have hj : j < rs.length := by have := of_decide_eq_true h; omega
    obtain ⟨ad, rfl⟩ := hr.some (by rw [prsV_len]; omega)
    have hx : rs[j]? = some rs[j] := List.getElem?_eq_getElem hj
    have hL := fun (K : Value → Prop) => pr_load (K := K) (hr.mono hM.ext) hj
    have hst := flat_pr_take (hkp j _ hx)
    have hle := flat_pr_le ps j
    have hle2 := flat_pr_le ps (j + 1)
    rw [hst, List.length_append, prB_len] at hle2
    have hpb : prB (pd rs[j]) = [byteAt rs[j].k.length 0, byteAt rs[j].v.length 0] ++ (rs[j].k ++ rs[j].v) := rfl
    have hpz : psz (pd rs[j]) = 2 + rs[j].k.length + rs[j].v.length := rfl
    have hok := hp rs[j] (List.getElem_mem hj)
    have hsz := hsm rs[j] (List.getElem_mem hj)
    generalize rs[j] = r at hL hok hpb hsz hst hpz hle2
    rw [hpb] at hst
    clear hpb
    rw [hpz] at hle2
    clear hpz
    generalize (ps.take j).flatMap prB = body at hst hM hle hle2
    generalize hout : hd ++ body = out at hM
    have hol : out.length ≤ 240 := by rw [← hout, List.length_append]; omega
    have hol2 : out.length + (2 + r.k.length + r.v.length) ≤ 240 := by rw [← hout, List.length_append]; omega
    obtain ⟨k, A1, c1, w, B1, cc1⟩ := r
    dsimp only at hst hsz hol2
    ((conv => whnf); repeat (first | (apply load_at; (conv => lhs; whnf); (with_reducible assumption); rfl; (conv => whnf)) | (apply loads_at; (conv => lhs; whnf); (with_reducible assumption); rfl; (conv => whnf)) | (refine ⟨⟨by omega, by omega⟩, ?_⟩; (conv => whnf))))
    refine hL _ ?_
    (conv => whnf)
    refine new_step (zeroP) rfl fun u h0_u => ?_
    have hU_u := Heap.put_same F6 u (zeroP)
    have hX_u := fun o => (ext_put_put h0_u (o := zeroP) (o' := o))
    generalize F6.put u (zeroP) = F7 at hU_u hX_u ⊢
    (conv => whnf)
    refine store_step u 0 _ (prC (.slice A1 k.length c1) (.slice B1 w.length cc1)) rfl hU_u rfl rfl (.inl (Nat.le_refl 0)) (os2 _ _ _ _ _ _) ?_
    have hB_u := Heap.put_same F7 u (prO (.slice A1 k.length c1) (.slice B1 w.length cc1))
    have hE_u := hX_u (prO (.slice A1 k.length c1) (.slice B1 w.length cc1))
    clear hU_u hX_u
    generalize F7.put u _ = F7 at hB_u hE_u ⊢
    replace hM := hM.mono hE_u
    ((conv => whnf); repeat (first | (apply load_at; (conv => lhs; whnf); (with_reducible assumption); rfl; (conv => whnf)) | (apply loads_at; (conv => lhs; whnf); (with_reducible assumption); rfl; (conv => whnf)) | (refine ⟨⟨by omega, by omega⟩, ?_⟩; (conv => whnf))))
    refine new_step (.cells #[.int .u8 (IntKind.u8.wrap (k.length : Int)), .int .u8 (IntKind.u8.wrap (w.length : Int))] 5) rfl fun g h0_g => ?_
    have hE_g := Ext.new h0_g (.cells #[.int .u8 (IntKind.u8.wrap (k.length : Int)), .int .u8 (IntKind.u8.wrap (w.length : Int))] 5)
    have hB_g := Heap.put_same F7 g (.cells #[.int .u8 (IntKind.u8.wrap (k.length : Int)), .int .u8 (IntKind.u8.wrap (w.length : Int))] 5)
    generalize F7.put g _ = F8 at hE_g hB_g ⊢
    have hU8 := hE_g _ _ hB_u
    replace hM := hM.mono hE_g
    have hrow := row_blk hB_g
    have hbs : (#[Value.int .u8 (IntKind.u8.wrap (k.length : Int)), .int .u8 (IntKind.u8.wrap (w.length : Int))] : Array Value).toList = bytesOf [byteAt k.length 0, byteAt w.length 0] := by rw [wrap_byte, wrap_byte]; rfl
    rw [hbs] at hrow
    (conv => whnf)
    refine append_mine tab_ok rfl rfl rfl rfl rfl ⟨_, rfl, fun k h => by cases h⟩ ⟨_, rfl, rfl⟩ (by decide) hM (m := 2) (ys := bytesOf [byteAt k.length 0, byteAt w.length 0]) (y := .slice (some ⟨g, 0, none⟩) 2 2) ⟨rfl, .inl ⟨_, _, rfl, hrow⟩⟩ (hone_bytes _) (by show 2 * (out.length + 2) * 1 ≤ _; omega) fun S2 F9 hM9 hk9 => ?_
    have hU9 := hk9 _ _ hU8 (hM.own.blk_ne hU8 (by decide))
    rw [← bytes_app] at hM9
    obtain ⟨A9, c9, rfl, hc9, hR9⟩ := hM9.own.row
    ((conv => whnf); repeat (first | (apply load_at; (conv => lhs; whnf); (with_reducible assumption); rfl; (conv => whnf)) | (apply loads_at; (conv => lhs; whnf); (with_reducible assumption); rfl; (conv => whnf)) | (refine ⟨⟨by omega, by omega⟩, ?_⟩; (conv => whnf))))
    refine new_step (.cells #[.slice A9 (out.length + 2) c9, .slice A1 k.length c1, .slice B1 w.length cc1] 22) rfl fun y h0_y => ?_
    have hE_y := Ext.new h0_y (.cells #[.slice A9 (out.length + 2) c9, .slice A1 k.length c1, .slice B1 w.length cc1] 22)
    have hB_y := Heap.put_same F9 y (.cells #[.slice A9 (out.length + 2) c9, .slice A1 k.length c1, .slice B1 w.length cc1] 22)
    generalize F9.put y _ = F10 at hE_y hB_y ⊢
    have hrow2 := row_blk hB_y
    replace hM9 := hM9.mono hE_y
    have hok2 := hok.mono hM9.ext
    have hcat := concat [(out ++ [byteAt k.length 0, byteAt w.length 0], A9, c9), (k, A1, c1), (w, B1, cc1)] (some ⟨y, 0, none⟩) 3 F10 (by simpa [catV] using hrow2) (by
      intro p hp
      simp only [List.mem_cons, List.not_mem_nil, or_false] at hp
      rcases hp with rfl | rfl | rfl
      · exact hR9.mono hE_y
      · exact hok2.1
      · exact hok2.2.1) (by simp) (by simp only [flat, List.flatMap_cons, List.flatMap_nil, List.append_nil, List.length_append, List.length_cons, List.length_nil]; omega)
    have hfl : flat [(out ++ [byteAt k.length 0, byteAt w.length 0], A9, c9), (k, A1, c1), (w, B1, cc1)] = hd ++ (ps.take (j + 1)).flatMap prB := by
      rw [hst, ← List.append_assoc, hout]
      simp [flat]
    rw [hfl] at hcat
    (conv => whnf)
    refine call_of hcat ?_
    rintro S3 F11 hM11
    ((conv => whnf); repeat (first | (apply load_at; (conv => lhs; whnf); (with_reducible assumption); rfl; (conv => whnf)) | (apply loads_at; (conv => lhs; whnf); (with_reducible assumption); rfl; (conv => whnf)) | (refine ⟨⟨by omega, by omega⟩, ?_⟩; (conv => whnf))))
    refine ⟨mm - 1, by omega, j + 1, _, by omega, ?_, hM11.down hM9.ext⟩
    rw [← wrap_succ (j := j) (by omega)]
    rfl
  · have hj : j = rs.length := by have := of_decide_eq_false h; omega
    subst hj
    have htk : ps.take rs.length = ps := by rw [← hlen, List.take_length]
    rw [htk] at hM
    have hol : (hd ++ ps.flatMap prB).length ≤ 240 := by rw [List.length_append, flat_prB]; exact hbl
    generalize hd ++ ps.flatMap prB = out at hM hpage hol
    subst hpage
    obtain ⟨A2, c2, rfl, hc2, hR2⟩ := hM.own.row
    ((conv => whnf); repeat (first | (apply load_at; (conv => lhs; whnf); (with_reducible assumption); rfl; (conv => whnf)) | (apply loads_at; (conv => lhs; whnf); (with_reducible assumption); rfl; (conv => whnf)) | (refine ⟨⟨by omega, by omega⟩, ?_⟩; (conv => whnf))))
    refine make_one tab_ok 240 240 rfl rfl rfl rfl rfl ⟨rfl, by decide, _, rfl, rfl⟩ (by decide) (by decide) fun g hg => ?_
    have hE_g := Ext.new hg (.cells (List.replicate 240 (Value.int .u8 0)).toArray 5)
    have hG := Heap.put_same F6 g (.cells (List.replicate 240 (Value.int .u8 0)).toArray 5)
    have hg0 := hM.ext.none hg
    have hR7 := hR2.mono hE_g
    have hX := fun o => hM.ext.trans (ext_put_put hg (o := .cells (List.replicate 240 (Value.int .u8 0)).toArray 5) (o' := o))
    generalize F6.put g _ = F7 at hE_g hG hR7 hX ⊢
    (conv => whnf)
    refine copy_all tab_ok (m := out.length) (ys := bytesOf out) (y := .slice A2 out.length c2) rfl rfl rfl rfl rfl ⟨by rw [bytes_len]; exact (Nat.mul_one _).symm, .inl ⟨_, _, rfl, hR7⟩⟩ hol hG (.inl (Nat.le_refl 0)) (by show out.length * 1 ≤ _; simpa using hol) (hone_bytes _) ?_
    rw [List.toList_toArray, page_eq out hol]
    have hG2 := Heap.put_same F7 g (.cells (bytesOf (out ++ List.replicate (240 - out.length) 0)).toArray 5)
    replace hX := hX (.cells (bytesOf (out ++ List.replicate (240 - out.length) 0)).toArray 5)
    generalize F7.put g _ = F8 at hG2 hX ⊢
    have hpl : (out ++ List.replicate (240 - out.length) (0 : UInt8)).length = 240 := by rw [List.length_append, List.length_replicate]; omega
    have hfin := mine_blk (n := 240) (c := 240) (z := 1) hX hg0 hG2 (by simp [bytes_len, hpl]) (Nat.le_refl _)
    rw [List.toList_toArray, List.take_of_length_le (by rw [bytes_len, hpl]; exact Nat.le_refl _)] at hfin
    (conv => whnf)
    exact .inl ⟨rfl, _, rfl, hfin⟩
end Go.Proofs.Ytkahpaipciooiad.Al

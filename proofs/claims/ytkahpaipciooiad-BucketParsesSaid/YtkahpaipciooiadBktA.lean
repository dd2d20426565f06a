/- Buckets: what they are; bucket.Size, Fits, Find, fair and the reference's Size and Find, over what is known of memory. -/
import Derived.Test.YtkahpaipciooiadPrs
import Derived.Test.YtkahpaipciooiadConcat
import Derived.Test.YtkahpaipciooiadGetG
import Derived.Test.YtkahpaipciooiadAlMore
namespace Go.Proofs.Ytkahpaipciooiad.Al
open Go Go.Al Go.Proofs Go.RowKit
set_option maxHeartbeats 8000000
set_option maxRecDepth 100000
set_option linter.unusedVariables false
set_option linter.unusedSimpArgs false
structure BD where
  d : Int
  nx : Int
  ps : List PD
abbrev bkC (d nx : Int) (S : Value) : Array Value := #[.int .i64 d, .int .i64 nx, S]
abbrev bkO (d nx : Int) (S : Value) : Obj := .cells (bkC d nx S) 26
def psz (p : PD) : Nat := 2 + p.1.length + p.2.length
def sumP : List PD → Nat
  | [] => 0
  | p :: ps => psz p + sumP ps
theorem sumP_take : ∀ {ps : List PD} {j : Nat} {p : PD}, ps[j]? = some p → sumP (ps.take (j + 1)) = sumP (ps.take j) + psz p := by
  intro ps
  induction ps with
  | nil => intro j p h; simp at h
  | cons q ps ih =>
    intro j p h
    cases j with
    | zero =>
      obtain rfl : q = p := by simpa using h
      show psz q + sumP (ps.take 0) = 0 + psz q
      rw [List.take_zero, Nat.zero_add]
      rfl
    | succ j =>
      show psz q + sumP (ps.take (j + 1)) = psz q + sumP (ps.take j) + psz p
      rw [ih (by simpa using h), Nat.add_assoc]
/-- Rows of pairs that are small. -/
def Sm (rs : List PR) : Prop := rs.length ≤ 1000 ∧ ∀ r ∈ rs, r.k.length ≤ 1000 ∧ r.v.length ≤ 1000
theorem Sm.le {rs : List PR} (h : Sm rs) : sumP (rs.map pd) ≤ 2002 * rs.length := by
  replace h := h.2
  induction rs with
  | nil => exact Nat.le_refl _
  | cons r rs ih =>
    have h1 := h r (by simp)
    have := ih fun s hs => h s (List.mem_cons_of_mem _ hs)
    show 2 + r.k.length + r.v.length + sumP (rs.map pd) ≤ _
    rw [List.length_cons]
    omega
theorem Sm.take {rs : List PR} (h : Sm rs) (j : Nat) : Sm (rs.take j) := ⟨by rw [List.length_take]; have := h.1; omega, fun r hr => h.2 r (List.mem_of_mem_take hr)⟩
theorem size (d nx : Int) (rs : List PR) (A : Option Addr) (c : Nat) (F : Heap) (hr : RowAt F A (prsV rs)) (hs : Sm rs) :
    FnK Try.prog 17 #[.agg (bkC d nx (.slice A rs.length c))] F (fun v F' => v = .int .i64 ((8 + sumP (rs.map pd) : Nat) : Int) ∧ Ext F F') := by
  obtain ⟨hl, hsm⟩ := hs
  (refine fn_walk tab_ok Try.func17 rfl rfl rfl rfl ?_; (conv => whnf))
  refine new_step (bkO d nx (.slice A rs.length c)) rfl fun b hb => ?_
  have hE := Ext.new hb (bkO d nx (.slice A rs.length c))
  have hB := Heap.put_same F b (bkO d nx (.slice A rs.length c))
  generalize F.put b _ = F1 at hE hB ⊢
  have hr1 := hr.mono hE
  ((conv => whnf); repeat (first | (apply load_at; (conv => lhs; whnf); (with_reducible assumption); rfl; (conv => whnf)) | (apply loads_at; (conv => lhs; whnf); (with_reducible assumption); rfl; (conv => whnf)) | (refine ⟨⟨by omega, by omega⟩, ?_⟩; (conv => whnf))))
  refine loop_slots [3, 7, 8, 9] (fun mm vs F' => ∃ j : Nat, j + mm = rs.length ∧ vs = [.int .i64 ((8 + sumP ((rs.take j).map pd) : Nat) : Int), .slice A rs.length c, .int .i64 (rs.length : Int), .int .i64 (j : Int)] ∧ Ext F F' ∧ RowAt F' A (prsV rs)) rs.length ⟨0, by omega, rfl, hE, hr1⟩ ?_
  clear hr1 hB hE
  rintro mm vs F2 ρ ⟨j, hjm, rfl, hE, hr2⟩
  (conv => whnf)
  refine cond_split (fun h => ?_) (fun h => ?_)
  · have hj : j < rs.length := by have := of_decide_eq_true h; omega
    obtain ⟨ad, rfl⟩ := hr.some (by rw [prsV_len]; omega)
    have hx : rs[j]? = some rs[j] := List.getElem?_eq_getElem hj
    have hL := fun (K : Value → Prop) => pr_load (K := K) hr2 hj
    have hst : sumP ((rs.take (j + 1)).map pd) = sumP ((rs.take j).map pd) + psz (pd rs[j]) := by
      rw [List.map_take, List.map_take]
      exact sumP_take (by rw [List.getElem?_map, hx, Option.map_some])
    have hle : sumP ((rs.take j).map pd) ≤ 2002 * rs.length := Nat.le_trans (Sm.le (Sm.take ⟨hl, hsm⟩ j)) (Nat.mul_le_mul_left _ (by rw [List.length_take]; omega))
    have hle2 := hsm rs[j] (List.getElem_mem hj)
    generalize rs[j] = r at hL hst hle2
    generalize sumP ((rs.take j).map pd) = s at hst hle
    obtain ⟨k, A1, c1, w, B1, cc1⟩ := r
    change _ = s + (2 + k.length + w.length) at hst
    dsimp only at hle2
    ((conv => whnf); repeat (first | (apply load_at; (conv => lhs; whnf); (with_reducible assumption); rfl; (conv => whnf)) | (apply loads_at; (conv => lhs; whnf); (with_reducible assumption); rfl; (conv => whnf)) | (refine ⟨⟨by omega, by omega⟩, ?_⟩; (conv => whnf))))
    refine hL _ ?_
    (conv => whnf)
    refine new_step zeroP rfl fun u hu => ?_
    have hU := Heap.put_same F2 u zeroP
    have hX := fun o => (ext_put_put hu (o := zeroP) (o' := o))
    generalize F2.put u zeroP = F3 at hU hX ⊢
    (conv => whnf)
    refine store_step u 0 _ (prC (.slice A1 k.length c1) (.slice B1 w.length cc1)) rfl hU rfl rfl (.inl (Nat.le_refl 0)) (os2 _ _ _ _ _ _) ?_
    have hU := Heap.put_same F3 u (prO (.slice A1 k.length c1) (.slice B1 w.length cc1))
    replace hX := hX (prO (.slice A1 k.length c1) (.slice B1 w.length cc1))
    generalize F3.put u _ = F4 at hU hX ⊢
    ((conv => whnf); repeat (first | (apply load_at; (conv => lhs; whnf); (with_reducible assumption); rfl; (conv => whnf)) | (apply loads_at; (conv => lhs; whnf); (with_reducible assumption); rfl; (conv => whnf)) | (refine ⟨⟨by omega, by omega⟩, ?_⟩; (conv => whnf))))
    refine ⟨mm - 1, by omega, j + 1, by omega, ?_, hE.trans hX, hr2.mono hX⟩
    have hw : IntKind.i64.wrap ((j : Int) + 1) = ((j + 1 : Nat) : Int) := by rw [IntKind.wrap_i64]; omega
    have hw2 : IntKind.i64.wrap (((8 + s : Nat) : Int) + IntKind.i64.wrap (IntKind.i64.wrap (2 + (k.length : Int)) + (w.length : Int))) = ((8 + sumP ((rs.take (j + 1)).map pd) : Nat) : Int) := by rw [hst, wrap_eq (x := 2 + (k.length : Int)) (by omega) (by omega), wrap_eq (x := 2 + (k.length : Int) + (w.length : Int)) (by omega) (by omega), wrap_eq (by omega) (by omega)]; omega
    rw [← hw, ← hw2]
    rfl
  · have hj : j = rs.length := by have := of_decide_eq_false h; omega
    subst hj
    rw [List.take_length]
    (conv => whnf)
    exact ⟨rfl, hE⟩
theorem rsize (d nx : Int) (rs : List PR) (A : Option Addr) (c : Nat) (F : Heap) (hr : RowAt F A (prsV rs)) (hs : Sm rs) :
    FnK Try.prog 18 #[.agg (bkC d nx (.slice A rs.length c))] F (fun v F' => v = .int .i64 ((8 + sumP (rs.map pd) : Nat) : Int) ∧ Ext F F') := by
  obtain ⟨hl, hsm⟩ := hs
  (refine fn_walk tab_ok Try.func18 rfl rfl rfl rfl ?_; (conv => whnf))
  refine new_step (bkO d nx (.slice A rs.length c)) rfl fun b hb => ?_
  have hE := Ext.new hb (bkO d nx (.slice A rs.length c))
  have hB := Heap.put_same F b (bkO d nx (.slice A rs.length c))
  generalize F.put b _ = F1 at hE hB ⊢
  have hr1 := hr.mono hE
  ((conv => whnf); repeat (first | (apply load_at; (conv => lhs; whnf); (with_reducible assumption); rfl; (conv => whnf)) | (apply loads_at; (conv => lhs; whnf); (with_reducible assumption); rfl; (conv => whnf)) | (refine ⟨⟨by omega, by omega⟩, ?_⟩; (conv => whnf))))
  refine loop_slots [1, 3, 4] (fun mm vs F' => ∃ j : Nat, j + mm = rs.length ∧ vs = [.pointer (some ⟨b, 0, none⟩), .int .i64 ((8 + sumP ((rs.take j).map pd) : Nat) : Int), .int .i64 (j : Int)] ∧ F' = F1) rs.length ⟨0, by omega, rfl, rfl⟩ ?_
  rintro mm vs F2 ρ ⟨j, hjm, rfl, rfl⟩
  ((conv => whnf); repeat (first | (apply load_at; (conv => lhs; whnf); (with_reducible assumption); rfl; (conv => whnf)) | (apply loads_at; (conv => lhs; whnf); (with_reducible assumption); rfl; (conv => whnf)) | (refine ⟨⟨by omega, by omega⟩, ?_⟩; (conv => whnf))))
  refine cond_split (fun h => ?_) (fun h => ?_)
  · have hj : j < rs.length := by have := of_decide_eq_true h; omega
    obtain ⟨ad, rfl⟩ := hr.some (by rw [prsV_len]; omega)
    have hx : rs[j]? = some rs[j] := List.getElem?_eq_getElem hj
    have hst : sumP ((rs.take (j + 1)).map pd) = sumP ((rs.take j).map pd) + psz (pd rs[j]) := by
      rw [List.map_take, List.map_take]
      exact sumP_take (by rw [List.getElem?_map, hx, Option.map_some])
    have hle : sumP ((rs.take j).map pd) ≤ 2002 * rs.length := Nat.le_trans (Sm.le (Sm.take ⟨hl, hsm⟩ j)) (Nat.mul_le_mul_left _ (by rw [List.length_take]; omega))
    have hle2 := hsm rs[j] (List.getElem_mem hj)
    have hc0 := pr_cell hr1 hj (i := 0) rfl
    have hc1 := pr_cell hr1 hj (i := 1) rfl
    generalize rs[j] = r at hst hle2 hc0 hc1
    generalize sumP ((rs.take j).map pd) = s at hst hle
    obtain ⟨k, A1, c1, w, B1, cc1⟩ := r
    change _ = s + (2 + k.length + w.length) at hst
    dsimp only at hle2
    (conv => whnf)
    refine draw_walk tab_ok (by kernel_rfl) [0, 1, 2, 3, 4, 5, 6, 7, 8, 9, 10, 11, 12, 13, 14, 15, 16, 17, 18] (by kernel_rfl) ?_
    ((conv => whnf); repeat (first | (apply load_at; (conv => lhs; whnf); (with_reducible assumption); rfl; (conv => whnf)) | (apply loads_at; (conv => lhs; whnf); (with_reducible assumption); rfl; (conv => whnf)) | (refine ⟨⟨by omega, by omega⟩, ?_⟩; (conv => whnf))))
    refine load_step hc0 ?_
    ((conv => whnf); repeat (first | (apply load_at; (conv => lhs; whnf); (with_reducible assumption); rfl; (conv => whnf)) | (apply loads_at; (conv => lhs; whnf); (with_reducible assumption); rfl; (conv => whnf)) | (refine ⟨⟨by omega, by omega⟩, ?_⟩; (conv => whnf))))
    refine load_step hc1 ?_
    ((conv => whnf); repeat (first | (apply load_at; (conv => lhs; whnf); (with_reducible assumption); rfl; (conv => whnf)) | (apply loads_at; (conv => lhs; whnf); (with_reducible assumption); rfl; (conv => whnf)) | (refine ⟨⟨by omega, by omega⟩, ?_⟩; (conv => whnf))))
    refine ⟨mm - 1, by omega, j + 1, by omega, ?_, rfl⟩
    have hw : IntKind.i64.wrap ((j : Int) + 1) = ((j + 1 : Nat) : Int) := by rw [IntKind.wrap_i64]; omega
    have hw2 : IntKind.i64.wrap (IntKind.i64.wrap (IntKind.i64.wrap (((8 + s : Nat) : Int) + 2) + (k.length : Int)) + (w.length : Int)) = ((8 + sumP ((rs.take (j + 1)).map pd) : Nat) : Int) := by rw [hst, wrap_eq (x := ((8 + s : Nat) : Int) + 2) (by omega) (by omega), wrap_eq (x := ((8 + s : Nat) : Int) + 2 + (k.length : Int)) (by omega) (by omega), wrap_eq (by omega) (by omega)]; omega
    rw [← hw, ← hw2]
    rfl
  · have hj : j = rs.length := by have := of_decide_eq_false h; omega
    subst hj
    rw [List.take_length]
    (conv => whnf)
    exact ⟨rfl, hE⟩
theorem fits (d nx : Int) (rs : List PR) (A : Option Addr) (c : Nat) (F : Heap) (hr : RowAt F A (prsV rs)) (hs : Sm rs) :
    FnK Try.prog 19 #[.agg (bkC d nx (.slice A rs.length c))] F (fun v F' => v = .bool (decide (((8 + sumP (rs.map pd) : Nat) : Int) ≤ 240)) ∧ Ext F F') := by
  have hsz := fun G hg => size d nx rs A c G hg hs
  (refine fn_walk tab_ok Try.func19 rfl rfl rfl rfl ?_; (conv => whnf))
  refine new_step (bkO d nx (.slice A rs.length c)) rfl fun b hb => ?_
  have hE := Ext.new hb (bkO d nx (.slice A rs.length c))
  have hB := Heap.put_same F b (bkO d nx (.slice A rs.length c))
  generalize F.put b _ = F1 at hE hB ⊢
  (conv => whnf)
  refine ⟨⟨_, _, _, hB, rfl, Nat.le_refl 3, ?_⟩⟩
  (conv => whnf)
  refine call_of (hsz F1 (hr.mono hE)) ?_
  rintro v F2 ⟨rfl, hE2⟩
  (conv => whnf)
  exact ⟨rfl, hE.trans hE2⟩
abbrev keyO (B : Option Addr) (n c : Nat) : Obj := .cells #[.slice B n c] 22
def findI (key : List UInt8) (ps : List PD) : Int := idxF (fun p : PD => p.1 == key) ps 0
theorem find1 (r : PR) (key : List UInt8) (q : Nat) (B : Option Addr) (cc : Nat) (F : Heap) (hr : PrOk F r) (hq : F q = some (keyO B key.length cc)) (hk : RowAt F B (bytesOf key)) :
    FnK Try.prog 46 #[.agg (prA r), .pointer (some ⟨q, 0, none⟩)] F (fun v F' => v = .bool (r.k == key) ∧ Ext F F') := by
  obtain ⟨k, A1, c1, w, B1, cc1⟩ := r
  obtain ⟨a1, a2, _⟩ := hr
  dsimp only at a1 a2 ⊢
  have e1 := fun G g g' => bytesEqual k key A1 B c1 cc G g g'
  generalize (k == key) = z1 at e1 ⊢
  (refine fn_walk tab_ok Try.func46 rfl rfl rfl rfl ?_; (conv => whnf))
  refine new_step (prO (.slice A1 k.length c1) (.slice B1 w.length cc1)) rfl fun b hb => ?_
  have hE := Ext.new hb (prO (.slice A1 k.length c1) (.slice B1 w.length cc1))
  have hB := Heap.put_same F b (prO (.slice A1 k.length c1) (.slice B1 w.length cc1))
  generalize F.put b _ = F1 at hE hB ⊢
  have hq1 := hE _ _ hq
  ((conv => whnf); repeat (first | (apply load_at; (conv => lhs; whnf); (with_reducible assumption); rfl; (conv => whnf)) | (apply loads_at; (conv => lhs; whnf); (with_reducible assumption); rfl; (conv => whnf)) | (refine ⟨⟨by omega, by omega⟩, ?_⟩; (conv => whnf))))
  refine call_of (e1 F1 (a1.mono hE) (hk.mono hE)) ?_
  rintro v F2 ⟨rfl, rfl⟩
  (conv => whnf)
  exact ⟨rfl, hE⟩
theorem find (d nx : Int) (rs : List PR) (A : Option Addr) (c : Nat) (key : List UInt8) (B : Option Addr) (cc : Nat) (F : Heap) (hr : RowAt F A (prsV rs)) (hp : ∀ r ∈ rs, PrOk F r) (hk : RowAt F B (bytesOf key)) (hl : rs.length ≤ 1000) :
    FnK Try.prog 20 #[.agg (bkC d nx (.slice A rs.length c)), .slice B key.length cc] F (fun v F' => v = .int .i64 (findI key (rs.map pd)) ∧ Ext F F') := by
  have hfi : findI key (rs.map pd) = idxF (fun r : PR => r.k == key) rs 0 := (idxF_map (fun p : PD => p.1 == key) pd rs 0).symm
  rw [hfi]
  clear hfi
  (refine fn_walk tab_ok Try.func20 rfl rfl rfl rfl ?_; (conv => whnf))
  refine new_step (bkO d nx (.slice A rs.length c)) rfl fun b hb => ?_
  have hE := Ext.new hb (bkO d nx (.slice A rs.length c))
  have hB := Heap.put_same F b (bkO d nx (.slice A rs.length c))
  generalize F.put b _ = F1 at hE hB ⊢
  (conv => whnf)
  refine new_step (keyO B key.length cc) rfl fun q hq => ?_
  have hX := Ext.new hq (keyO B key.length cc)
  have hQ := Heap.put_same F1 q (keyO B key.length cc)
  replace hB := hX _ _ hB
  replace hE := hE.trans hX
  generalize F1.put q _ = F2 at hE hB hQ ⊢
  have hc := indexP 46 [.pointer (some ⟨q, 0, none⟩)] (fun r : PR => r.k == key) rs A c F2 (hr.mono hE) (by omega) (fun r hm G hG => find1 r key q B cc G ((hp r hm).mono (hE.trans hG)) (hG _ _ hQ) (hk.mono (hE.trans hG)))
  generalize idxF (fun r : PR => r.k == key) rs 0 = z at hc ⊢
  ((conv => whnf); repeat (first | (apply load_at; (conv => lhs; whnf); (with_reducible assumption); rfl; (conv => whnf)) | (apply loads_at; (conv => lhs; whnf); (with_reducible assumption); rfl; (conv => whnf)) | (refine ⟨⟨by omega, by omega⟩, ?_⟩; (conv => whnf))))
  refine call_of hc ?_
  rintro v F3 ⟨rfl, hE3⟩
  (conv => whnf)
  exact ⟨rfl, hE.trans hE3⟩
theorem rfind (d nx : Int) (rs : List PR) (A : Option Addr) (c : Nat) (key : List UInt8) (B : Option Addr) (cc : Nat) (F : Heap) (hr : RowAt F A (prsV rs)) (hp : ∀ r ∈ rs, PrOk F r) (hk : RowAt F B (bytesOf key)) (hl : rs.length ≤ 1000) :
    FnK Try.prog 21 #[.agg (bkC d nx (.slice A rs.length c)), .slice B key.length cc] F (fun v F' => v = .int .i64 (findI key (rs.map pd)) ∧ Ext F F') := by
  have hfi : findI key (rs.map pd) = idxF (fun r : PR => r.k == key) rs 0 := (idxF_map (fun p : PD => p.1 == key) pd rs 0).symm
  rw [hfi]
  clear hfi
  (refine fn_walk tab_ok Try.func21 rfl rfl rfl rfl ?_; (conv => whnf))
  refine new_step (bkO d nx (.slice A rs.length c)) rfl fun b hb => ?_
  have hE := Ext.new hb (bkO d nx (.slice A rs.length c))
  have hB := Heap.put_same F b (bkO d nx (.slice A rs.length c))
  generalize F.put b _ = F1 at hE hB ⊢
  have hr1 := hr.mono hE
  have hk1 := hk.mono hE
  ((conv => whnf); repeat (first | (apply load_at; (conv => lhs; whnf); (with_reducible assumption); rfl; (conv => whnf)) | (apply loads_at; (conv => lhs; whnf); (with_reducible assumption); rfl; (conv => whnf)) | (refine ⟨⟨by omega, by omega⟩, ?_⟩; (conv => whnf))))
  refine loop_slots [1, 2, 5] (fun mm vs F' => ∃ j : Nat, j + mm = rs.length ∧ vs = [.slice B key.length cc, .pointer (some ⟨b, 0, none⟩), .int .i64 (j : Int)] ∧ idxF (fun r : PR => r.k == key) rs 0 = idxF (fun r : PR => r.k == key) (rs.drop j) j ∧ F' = F1) rs.length ⟨0, by omega, rfl, rfl, rfl⟩ ?_
  rintro mm vs F2 ρ ⟨j, hjm, rfl, hix, rfl⟩
  ((conv => whnf); repeat (first | (apply load_at; (conv => lhs; whnf); (with_reducible assumption); rfl; (conv => whnf)) | (apply loads_at; (conv => lhs; whnf); (with_reducible assumption); rfl; (conv => whnf)) | (refine ⟨⟨by omega, by omega⟩, ?_⟩; (conv => whnf))))
  refine cond_split (fun h => ?_) (fun h => ?_)
  · have hj : j < rs.length := by have := of_decide_eq_true h; omega
    obtain ⟨ad, rfl⟩ := hr.some (by rw [prsV_len]; omega)
    have hc0 := pr_cell hr1 hj (i := 0) rfl
    have hpr := ((hp rs[j] (List.getElem_mem hj)).mono hE).1
    rw [List.drop_eq_getElem_cons hj] at hix
    change _ = (if (rs[j].k == key) = true then (j : Int) else idxF (fun r : PR => r.k == key) (rs.drop (j + 1)) (j + 1)) at hix
    generalize rs[j] = r at hc0 hpr hix
    obtain ⟨k, A1, c1, w, B1, cc1⟩ := r
    dsimp only at hpr hix
    have hq := str_beq k key
    generalize (k == key) = z at hq hix
    (conv => whnf)
    refine draw_cut (fun env' F' => F' = F2 ∧ env' 22 = .bool z ∧ env' 1 = .slice B key.length cc ∧ env' 2 = .pointer (some ⟨b, 0, none⟩) ∧ env' 5 = .int .i64 (j : Int)) (fun K hK => ?_) ?_
    · refine draw_tree tab_ok (by kernel_rfl) [1, 5] (DT.row [0, 1, 2, 3, 4, 5, 7] (.fork (DT.row [6, 8, 9] .nil) (DT.row [8, 6, 9] .nil))) (by kernel_rfl) ?_
      ((conv => whnf); repeat (first | (apply load_at; (conv => lhs; whnf); (with_reducible assumption); rfl; (conv => whnf)) | (apply loads_at; (conv => lhs; whnf); (with_reducible assumption); rfl; (conv => whnf)) | (refine ⟨⟨by omega, by omega⟩, ?_⟩; (conv => whnf))))
      refine load_step hc0 ?_
      (conv => whnf)
      refine ⟨?_, ?_⟩
      · (conv => whnf)
        refine conv_str tab_ok k rfl rfl rfl rfl rfl hpr ?_
        refine ⟨Ext.refl _, ?_⟩
        (conv => whnf)
        refine conv_str tab_ok key rfl rfl rfl rfl rfl hk1 ?_
        refine ⟨Ext.refl _, ?_⟩
        (conv => whnf)
        exact hK _ _ ⟨rfl, congrArg Value.bool hq, rfl, rfl, rfl⟩
      · (conv => whnf)
        refine conv_str tab_ok key rfl rfl rfl rfl rfl hk1 ?_
        refine ⟨Ext.refl _, ?_⟩
        (conv => whnf)
        refine conv_str tab_ok k rfl rfl rfl rfl rfl hpr ?_
        refine ⟨Ext.refl _, ?_⟩
        (conv => whnf)
        exact hK _ _ ⟨rfl, congrArg Value.bool hq, rfl, rfl, rfl⟩
    · rintro env' F' ⟨rfl, q22, q1, q2, q5⟩
      refine short [22, 1, 2, 5] [.bool z, .slice B key.length cc, .pointer (some ⟨b, 0, none⟩), .int .i64 (j : Int)] (by simp only [List.map_cons, List.map_nil, q22, q1, q2, q5]) fun ρ => ?_
      cases z with
      | true =>
        rw [if_pos rfl] at hix
        rw [hix]
        (conv => whnf)
        exact ⟨rfl, hE⟩
      | false =>
        rw [if_neg (by decide)] at hix
        (conv => whnf)
        refine ⟨mm - 1, by omega, j + 1, by omega, ?_, hix, rfl⟩
        have hw : IntKind.i64.wrap ((j : Int) + 1) = ((j + 1 : Nat) : Int) := by rw [IntKind.wrap_i64]; omega
        rw [← hw]
        rfl
  · have hj : j = rs.length := by have := of_decide_eq_false h; omega
    subst hj
    rw [List.drop_length] at hix
    rw [hix]
    (conv => whnf)
    exact ⟨rfl, hE⟩
end Go.Proofs.Ytkahpaipciooiad.Al

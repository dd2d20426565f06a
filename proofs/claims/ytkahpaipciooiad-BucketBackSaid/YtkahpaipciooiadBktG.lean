/- Buckets: the reference's Parse, over what is known of memory. -/
import Derived.Test.YtkahpaipciooiadBktF
namespace Go.Proofs.Ytkahpaipciooiad.Al
open Go Go.Al Go.Proofs Go.RowKit
set_option maxHeartbeats 8000000
set_option maxRecDepth 100000
set_option linter.unusedVariables false
set_option linter.unusedSimpArgs false
theorem rparse (b : List UInt8) (A : Option Addr) (c : Nat) (F : Heap) (hr : RowAt F A (bytesOf b)) (hl : b.length ≤ 1000) (hc : b.length ≤ c) :
    FnK Try.prog 11 #[.slice A b.length c] F (fun v F' => ParR b v F' ∧ Ext F F') := by
  have no : ∀ F' : Heap, parseB b = none → Ext F F' → ParR b (.tuple #[.agg (bkC 0 0 (.slice none 0 0)), .int .i64 4]) F' ∧ Ext F F' := fun F' h h2 => ⟨.inr ⟨h, rfl⟩, h2⟩
  have hpb : parseB b = if b.length = 240 then (match prsGo b (getN b 6 2).toNat 8 [] with
    | none => none
    | some ps => if mayB (bdOf b ps) = true ∧ pageB (bdOf b ps) = b then some (bdOf b ps) else none) else none := by unfold parseB; congr
  (refine fn_walk tab_ok Try.func11 rfl rfl rfl rfl ?_; (conv => whnf))
  refine new_step (zeroB) rfl fun w h0_w => ?_
  have hE_w := Ext.new h0_w (zeroB)
  have hB_w := Heap.put_same F w (zeroB)
  generalize F.put w _ = F1 at hE_w hB_w ⊢
  ((conv => whnf); repeat (first | (apply load_at; (conv => lhs; whnf); (with_reducible assumption); rfl; (conv => whnf)) | (apply loads_at; (conv => lhs; whnf); (with_reducible assumption); rfl; (conv => whnf)) | (refine ⟨⟨by omega, by omega⟩, ?_⟩; (conv => whnf))))
  refine cond_split (fun h => ?_) (fun h => ?_)
  · have h : ((b.length : Int) != 240) = true := h
    have hne : ¬ b.length = 240 := fun e => by rw [e] at h; exact absurd h (by decide)
    rw [if_neg hne] at hpb
    ((conv => whnf); repeat (first | (apply load_at; (conv => lhs; whnf); (with_reducible assumption); rfl; (conv => whnf)) | (apply loads_at; (conv => lhs; whnf); (with_reducible assumption); rfl; (conv => whnf)) | (refine ⟨⟨by omega, by omega⟩, ?_⟩; (conv => whnf))))
    refine store_step w 0 _ (bkC 0 0 (.slice none 0 0)) rfl hB_w rfl rfl (.inl (Nat.le_refl 0)) ozB ?_
    ((conv => whnf); repeat (first | (apply load_at; (conv => lhs; whnf); (with_reducible assumption); rfl; (conv => whnf)) | (apply loads_at; (conv => lhs; whnf); (with_reducible assumption); rfl; (conv => whnf)) | (refine ⟨⟨by omega, by omega⟩, ?_⟩; (conv => whnf))))
    refine res_cells tab_ok rfl rfl (Heap.put_same _ _ _) rfl ?_
    ((conv => whnf); repeat (first | (apply load_at; (conv => lhs; whnf); (with_reducible assumption); rfl; (conv => whnf)) | (apply loads_at; (conv => lhs; whnf); (with_reducible assumption); rfl; (conv => whnf)) | (refine ⟨⟨by omega, by omega⟩, ?_⟩; (conv => whnf))))
    exact no _ hpb (hE_w.put h0_w _)
  have h : ((b.length : Int) != 240) = false := h
  have hbl : b.length = 240 := by have := bne_eq_false_iff_eq.1 h; omega
  rw [if_pos hbl] at hpb
  obtain ⟨hn1, hn2⟩ := getN2 b 6
  have hg2 := fun G hg => rgetG 4 (.inr (.inr (.inl rfl))) b A c 2 G hg (by omega) hc (by decide)
  have hg6 := fun G hg => rgetG 2 (.inr (.inl rfl)) b A c 6 G hg (by omega) hc (by decide)
  rw [hn1] at hg6
  generalize (getN b 6 2).toNat = many at hg6 hn2 hpb
  have hbd : ∀ ps, bdOf b ps = ⟨((b.getD 1 0).toNat : Int), getN b 2 4, ps⟩ := fun _ => rfl
  generalize getN b 2 4 = nx at hg2 hbd
  obtain ⟨ad, rfl⟩ := hr.some (by rw [bytes_len]; omega)
  have hb1 : (bytesOf b)[1]? = some (.int .u8 (b.getD 1 0).toNat) := by
    unfold bytesOf
    rw [List.getElem?_map, List.getElem?_eq_getElem (by omega : 1 < b.length)]
    simp [List.getD, List.getElem?_eq_getElem (by omega : 1 < b.length)]
  have hwd := wrap_u8 (b.getD 1 0)
  generalize ((b.getD 1 0).toNat : Int) = d at hb1 hwd hbd
  have hcell1 : F1.cell? (ad.add 1) = some (.int .u8 d) := (hr.mono hE_w).cell hb1
  ((conv => whnf); repeat (first | (apply load_at; (conv => lhs; whnf); (with_reducible assumption); rfl; (conv => whnf)) | (apply loads_at; (conv => lhs; whnf); (with_reducible assumption); rfl; (conv => whnf)) | (refine ⟨⟨by omega, by omega⟩, ?_⟩; (conv => whnf))))
  refine load_step hcell1 ?_
  (conv => whnf)
  refine new_step (zeroB) rfl fun g h0_g => ?_
  have hU_g := Heap.put_same F1 g (zeroB)
  have hX_g := fun o => (ext_put_put h0_g (o := zeroB) (o' := o))
  generalize F1.put g (zeroB) = F2 at hU_g hX_g ⊢
  (conv => whnf)
  refine store_step g 0 _ (bkC (IntKind.i64.wrap d) 0 (.slice none 0 0)) rfl hU_g rfl rfl (.inl (Nat.le_refl 0)) (osB _ _ _ _ _) ?_
  have hB_g := Heap.put_same F2 g (bkO (IntKind.i64.wrap d) 0 (.slice none 0 0))
  have hE_g := hX_g (bkO (IntKind.i64.wrap d) 0 (.slice none 0 0))
  clear hU_g hX_g
  generalize F2.put g _ = F2 at hB_g hE_g ⊢
  rw [hwd] at hB_g
  have hwg : w ≠ g := fun e => by rw [e] at hB_w; rw [hB_w] at h0_g; cases h0_g
  have hW2 := hE_g _ _ hB_w
  have hE2 := hE_w.trans hE_g
  ((conv => whnf); repeat (first | (apply load_at; (conv => lhs; whnf); (with_reducible assumption); rfl; (conv => whnf)) | (apply loads_at; (conv => lhs; whnf); (with_reducible assumption); rfl; (conv => whnf)) | (refine ⟨⟨by omega, by omega⟩, ?_⟩; (conv => whnf))))
  refine call_of (hg2 F2 (hr.mono hE2)) ?_
  rintro v F2 ⟨rfl, rfl⟩
  ((conv => whnf); repeat (first | (apply load_at; (conv => lhs; whnf); (with_reducible assumption); rfl; (conv => whnf)) | (apply loads_at; (conv => lhs; whnf); (with_reducible assumption); rfl; (conv => whnf)) | (refine ⟨⟨by omega, by omega⟩, ?_⟩; (conv => whnf))))
  refine store_step g 1 _ (bkC d nx (.slice none 0 0)) rfl hB_g rfl rfl (.inl (Nat.le_refl 0)) (one_int _ _) ?_
  have hW3 := (Heap.put_other F2 (bkO d nx (.slice none 0 0)) hwg).trans hW2
  have hG3 := Heap.put_same F2 g (bkO d nx (.slice none 0 0))
  have hg0 := hE_w.none h0_g
  have hE3 := hE2.put hg0 (bkO d nx (.slice none 0 0))
  have hnone3 : ∀ k, (F2.put g (bkO d nx (.slice none 0 0))) k = none → F2 k = none := fun k hk => by
    by_cases e : k = g
    · rw [e, hG3] at hk; cases hk
    · rwa [Heap.put_other _ _ e] at hk
  generalize F2.put g _ = F3 at hW3 hG3 hE3 hnone3 ⊢
  ((conv => whnf); repeat (first | (apply load_at; (conv => lhs; whnf); (with_reducible assumption); rfl; (conv => whnf)) | (apply loads_at; (conv => lhs; whnf); (with_reducible assumption); rfl; (conv => whnf)) | (refine ⟨⟨by omega, by omega⟩, ?_⟩; (conv => whnf))))
  refine call_of (hg6 F3 (hr.mono hE3)) ?_
  rintro v F3 ⟨rfl, rfl⟩
  ((conv => whnf); repeat (first | (apply load_at; (conv => lhs; whnf); (with_reducible assumption); rfl; (conv => whnf)) | (apply loads_at; (conv => lhs; whnf); (with_reducible assumption); rfl; (conv => whnf)) | (refine ⟨⟨by omega, by omega⟩, ?_⟩; (conv => whnf))))
  refine loop_slots [0, 2, 4, 5, 7, 8] (fun mm vs F' => ∃ (j i : Nat) (S : Value) (rs : List PR) (G : Heap), j + mm = many ∧ vs = [.slice (some ad) b.length c, .pointer (some ⟨w, 0, none⟩), .pointer (some ⟨g, 0, none⟩), .int .i64 (many : Int), .int .i64 (i : Int), .int .i64 (j : Int)] ∧ prsGo b many 8 [] = prsGo b mm i (rs.map pd) ∧ i = 8 + sumP (rs.map pd) ∧ i ≤ 240 ∧ F' g = some (bkO d nx S) ∧ F' w = some zeroB ∧ Ext F G ∧ G g = none ∧ G w = none ∧ Mine G F' S 54 2 rs.length (prsV rs) ∧ ∀ r ∈ rs, PrOk G r) many ⟨0, 8, .slice none 0 0, [], F, by omega, rfl, rfl, rfl, by decide, hG3, hW3, Ext.refl F, hg0, h0_w, Mine.nil _ _ _ _ hE3, fun r h => by cases h⟩ ?_
  clear hW3 hG3 hE3 hE2 hW2 hB_g hE_g hB_w hE_w hcell1 hnone3 h0_g
  rintro mm vs F5 ρ ⟨j, i, S, rs, G, hjm, rfl, hgo, hi, hi2, hG, hW, hFG, hg1, hw1, hM, hok⟩
  (conv => whnf)
  refine cond_split (fun h => ?_) (fun h => ?_)
  · have hj : j < many := by have := of_decide_eq_true h; omega
    obtain ⟨m, rfl⟩ : ∃ m, mm = m + 1 := ⟨mm - 1, by omega⟩
    have hgo' : prsGo b many 8 [] = if pairOk b i then prsGo b m (pairN b i) (rs.map pd ++ [pairP b i]) else none := hgo
    have hgy : pairOk b i → prsGo b many 8 [] = prsGo b m (pairN b i) (rs.map pd ++ [pairP b i]) := fun h => by rw [hgo', if_pos h]
    have hgn : ¬ pairOk b i → prsGo b many 8 [] = none := fun h => by rw [hgo', if_neg h]
    clear hgo hgo'
    ((conv => whnf); repeat (first | (apply load_at; (conv => lhs; whnf); (with_reducible assumption); rfl; (conv => whnf)) | (apply loads_at; (conv => lhs; whnf); (with_reducible assumption); rfl; (conv => whnf)) | (refine ⟨⟨by omega, by omega⟩, ?_⟩; (conv => whnf))))
    refine cond_split (fun h => ?_) (fun h => ?_)
    · have h : decide ((i : Int) > 238) = true := h
      have h := of_decide_eq_true h
      rw [hgn (fun e => by have := e.1; omega)] at hpb
      ((conv => whnf); repeat (first | (apply load_at; (conv => lhs; whnf); (with_reducible assumption); rfl; (conv => whnf)) | (apply loads_at; (conv => lhs; whnf); (with_reducible assumption); rfl; (conv => whnf)) | (refine ⟨⟨by omega, by omega⟩, ?_⟩; (conv => whnf))))
      refine store_step w 0 _ (bkC 0 0 (.slice none 0 0)) rfl hW rfl rfl (.inl (Nat.le_refl 0)) ozB ?_
      ((conv => whnf); repeat (first | (apply load_at; (conv => lhs; whnf); (with_reducible assumption); rfl; (conv => whnf)) | (apply loads_at; (conv => lhs; whnf); (with_reducible assumption); rfl; (conv => whnf)) | (refine ⟨⟨by omega, by omega⟩, ?_⟩; (conv => whnf))))
      refine res_cells tab_ok rfl rfl (Heap.put_same _ _ _) rfl ?_
      ((conv => whnf); repeat (first | (apply load_at; (conv => lhs; whnf); (with_reducible assumption); rfl; (conv => whnf)) | (apply loads_at; (conv => lhs; whnf); (with_reducible assumption); rfl; (conv => whnf)) | (refine ⟨⟨by omega, by omega⟩, ?_⟩; (conv => whnf))))
      exact no _ hpb ((hFG.trans hM.ext).put h0_w _)
    have h : decide ((i : Int) > 238) = false := h
    have hi3 := of_decide_eq_false h
    have h2 : i + 2 ≤ b.length := by omega
    have hrF := hr.mono (hFG.trans hM.ext)
    have hrow := hrF
    have hbx : (bytesOf b)[i]? = some (.int .u8 (b.getD i 0).toNat) := by
      unfold bytesOf
      rw [List.getElem?_map, List.getElem?_eq_getElem (by omega : i < b.length)]
      simp [List.getD, List.getElem?_eq_getElem (by omega : i < b.length)]
    have hby : (bytesOf b)[i + 1]? = some (.int .u8 (b.getD (i + 1) 0).toNat) := by
      unfold bytesOf
      rw [List.getElem?_map, List.getElem?_eq_getElem (by omega : i + 1 < b.length)]
      simp [List.getD, List.getElem?_eq_getElem (by omega : i + 1 < b.length)]
    have hx := (b.getD i 0).toNat_lt
    have hy := (b.getD (i + 1) 0).toNat_lt
    have w1 := wrap_u8 (b.getD i 0)
    have w2 := wrap_u8 (b.getD (i + 1) 0)
    have hokp : pairOk b i ↔ i + 2 ≤ b.length ∧ i + 2 + (b.getD i 0).toNat + (b.getD (i + 1) 0).toNat ≤ b.length := Iff.rfl
    have hpp : pairP b i = ((b.drop (i + 2)).take (b.getD i 0).toNat, (b.drop (i + 2 + (b.getD i 0).toNat)).take (b.getD (i + 1) 0).toNat) := rfl
    have hpn : pairN b i = i + 2 + (b.getD i 0).toNat + (b.getD (i + 1) 0).toNat := rfl
    have hpl := fun h => pairP_len (b := b) (i := i) h
    generalize (b.getD i 0).toNat = x at hbx hx w1 hokp hpp hpn
    generalize (b.getD (i + 1) 0).toNat = y at hby hy w2 hokp hpp hpn
    generalize pairOk b i = okp at hokp hgy hgn hpl
    generalize pairP b i = pp at hpp hgy hpl
    generalize pairN b i = pn at hpn hgy hpl
    have hcx : F5.cell? (ad.add i) = some (.int .u8 (x : Int)) := hrF.cell hbx
    have hcy : F5.cell? (ad.add (i + 1)) = some (.int .u8 (y : Int)) := hrF.cell hby
    have hwi : IntKind.i64.wrap ((i : Int) + 1) = ((i + 1 : Nat) : Int) := by rw [IntKind.wrap_i64]; omega
    (conv => whnf)
    refine draw_cut (fun env' F' => F' = F5 ∧ env' 0 = .slice (some ad) b.length c ∧ env' 2 = .pointer (some ⟨w, 0, none⟩) ∧ env' 4 = .pointer (some ⟨g, 0, none⟩) ∧ env' 5 = .int .i64 (many : Int) ∧ env' 7 = .int .i64 (i : Int) ∧ env' 8 = .int .i64 (j : Int) ∧ env' 9 = .int .i64 (x : Int) ∧ env' 10 = .int .i64 (y : Int)) (fun K hK => ?_) ?_
    · refine draw_walk tab_ok (by kernel_rfl) [0, 1, 2, 3, 4, 5, 6, 7, 8, 9, 10, 11, 12] (by kernel_rfl) ?_
      ((conv => whnf); repeat (first | (apply load_at; (conv => lhs; whnf); (with_reducible assumption); rfl; (conv => whnf)) | (apply loads_at; (conv => lhs; whnf); (with_reducible assumption); rfl; (conv => whnf)) | (refine ⟨⟨by omega, by omega⟩, ?_⟩; (conv => whnf))))
      refine load_step (v := .int .u8 (x : Int)) ?_ ?_
      · show F5.cell? (ad.add (Int.toNat (i : Int) * 1)) = _
        rw [Int.toNat_natCast, Nat.mul_one]; exact hcx
      ((conv => whnf); repeat (first | (apply load_at; (conv => lhs; whnf); (with_reducible assumption); rfl; (conv => whnf)) | (apply loads_at; (conv => lhs; whnf); (with_reducible assumption); rfl; (conv => whnf)) | (refine ⟨⟨by omega, by omega⟩, ?_⟩; (conv => whnf))))
      refine load_step (v := .int .u8 (y : Int)) ?_ ?_
      · show F5.cell? (ad.add (Int.toNat (IntKind.i64.wrap ((i : Int) + 1)) * 1)) = _
        rw [hwi, Int.toNat_natCast, Nat.mul_one]; exact hcy
      ((conv => whnf); repeat (first | (apply load_at; (conv => lhs; whnf); (with_reducible assumption); rfl; (conv => whnf)) | (apply loads_at; (conv => lhs; whnf); (with_reducible assumption); rfl; (conv => whnf)) | (refine ⟨⟨by omega, by omega⟩, ?_⟩; (conv => whnf))))
      exact hK _ _ ⟨rfl, rfl, rfl, rfl, rfl, rfl, rfl, congrArg (Value.int .i64) w1, congrArg (Value.int .i64) w2⟩
    rintro env' F6 ⟨rfl, q0, q2, q4, q5, q7, q8, q9, q10⟩
    refine short [0, 2, 4, 5, 7, 8, 9, 10] [.slice (some ad) b.length c, .pointer (some ⟨w, 0, none⟩), .pointer (some ⟨g, 0, none⟩), .int .i64 (many : Int), .int .i64 (i : Int), .int .i64 (j : Int), .int .i64 (x : Int), .int .i64 (y : Int)] (by simp only [List.map_cons, List.map_nil, q0, q2, q4, q5, q7, q8, q9, q10]) fun ρ => ?_
    clear q0 q2 q4 q5 q7 q8 q9 q10 hcx hcy hbx hby
    have hxy : IntKind.i64.wrap ((x : Int) + (y : Int)) = ((x + y : Nat) : Int) := by rw [IntKind.wrap_i64]; omega
    have h238 : IntKind.i64.wrap (238 - (i : Int)) = ((238 - i : Nat) : Int) := by rw [IntKind.wrap_i64]; omega
    ((conv => whnf); repeat (first | (apply load_at; (conv => lhs; whnf); (with_reducible assumption); rfl; (conv => whnf)) | (apply loads_at; (conv => lhs; whnf); (with_reducible assumption); rfl; (conv => whnf)) | (refine ⟨⟨by omega, by omega⟩, ?_⟩; (conv => whnf))))
    refine cond_split (fun h => ?_) (fun h => ?_)
    · have h : decide (IntKind.i64.wrap ((x : Int) + (y : Int)) > IntKind.i64.wrap (238 - (i : Int))) = true := h
      have h := of_decide_eq_true h
      rw [hxy, h238] at h
      have hno : ¬ okp := fun e => by have := (hokp.1 e).2; omega
      rw [hgn hno] at hpb
      ((conv => whnf); repeat (first | (apply load_at; (conv => lhs; whnf); (with_reducible assumption); rfl; (conv => whnf)) | (apply loads_at; (conv => lhs; whnf); (with_reducible assumption); rfl; (conv => whnf)) | (refine ⟨⟨by omega, by omega⟩, ?_⟩; (conv => whnf))))
      refine store_step w 0 _ (bkC 0 0 (.slice none 0 0)) rfl hW rfl rfl (.inl (Nat.le_refl 0)) ozB ?_
      ((conv => whnf); repeat (first | (apply load_at; (conv => lhs; whnf); (with_reducible assumption); rfl; (conv => whnf)) | (apply loads_at; (conv => lhs; whnf); (with_reducible assumption); rfl; (conv => whnf)) | (refine ⟨⟨by omega, by omega⟩, ?_⟩; (conv => whnf))))
      refine res_cells tab_ok rfl rfl (Heap.put_same _ _ _) rfl ?_
      ((conv => whnf); repeat (first | (apply load_at; (conv => lhs; whnf); (with_reducible assumption); rfl; (conv => whnf)) | (apply loads_at; (conv => lhs; whnf); (with_reducible assumption); rfl; (conv => whnf)) | (refine ⟨⟨by omega, by omega⟩, ?_⟩; (conv => whnf))))
      exact no _ hpb ((hFG.trans hM.ext).put h0_w _)
    have h : decide (IntKind.i64.wrap ((x : Int) + (y : Int)) > IntKind.i64.wrap (238 - (i : Int))) = false := h
    have h := of_decide_eq_false h
    rw [hxy, h238] at h
    have h4 : i + 2 + x + y ≤ b.length := by omega
    have hpo : okp := hokp.2 ⟨h2, h4⟩
    clear hxy h238 h hi3
    replace hgy := hgy hpo
    replace hpl := hpl hpo
    have hple : pn ≤ 240 := by omega
    have hsm : 8 + sumP (rs.map pd ++ [pp]) = pn := by rw [sumP_app]; omega
    have hrl : rs.length ≤ 120 := by have := sumP_ge (rs.map pd); rw [List.length_map] at this; omega
    -- the key
    have wi2 : IntKind.i64.wrap ((i : Int) + 2) = ((i + 2 : Nat) : Int) := by rw [IntKind.wrap_i64]; omega
    have wi3 : IntKind.i64.wrap (IntKind.i64.wrap ((i : Int) + 2) + (x : Int)) = ((i + 2 + x : Nat) : Int) := by rw [wi2, IntKind.wrap_i64]; omega
    have wi4 : IntKind.i64.wrap (IntKind.i64.wrap (IntKind.i64.wrap ((i : Int) + 2) + (x : Int)) + (y : Int)) = ((i + 2 + x + y : Nat) : Int) := by rw [wi3, IntKind.wrap_i64]; omega
    have n2 : Int.toNat (IntKind.i64.wrap ((i : Int) + 2)) = i + 2 := by rw [wi2]; rfl
    have n3 : Int.toNat (IntKind.i64.wrap (IntKind.i64.wrap ((i : Int) + 2) + (x : Int))) = i + 2 + x := by rw [wi3]; rfl
    have n4 : Int.toNat (IntKind.i64.wrap (IntKind.i64.wrap (IntKind.i64.wrap ((i : Int) + 2) + (x : Int)) + (y : Int))) = i + 2 + x + y := by rw [wi4]; rfl
    have hkl : ((b.drop (i + 2)).take x).length = x := by rw [List.length_take, List.length_drop]; omega
    have hvl : ((b.drop (i + 2 + x)).take y).length = y := by rw [List.length_take, List.length_drop]; omega
    have hrk := row_cut3 (i + 2) x c (Int.toNat (IntKind.i64.wrap ((i : Int) + 2))) hrow n2 (by omega) (by omega)
    have hrv := fun G (hg : RowAt G (some ad) (bytesOf b)) => row_cut3 (i + 2 + x) y c (Int.toNat (IntKind.i64.wrap (IntKind.i64.wrap ((i : Int) + 2) + (x : Int)))) hg n3 (by omega) (by omega)
    obtain ⟨Ak, hAk⟩ : ∃ A', (if c = Int.toNat (IntKind.i64.wrap ((i : Int) + 2)) then some ad else (some ad).map (·.add (Int.toNat (IntKind.i64.wrap ((i : Int) + 2)) * 1))) = A' := ⟨_, rfl⟩
    obtain ⟨Av, hAv⟩ : ∃ A', (if c = Int.toNat (IntKind.i64.wrap (IntKind.i64.wrap ((i : Int) + 2) + (x : Int))) then some ad else (some ad).map (·.add (Int.toNat (IntKind.i64.wrap (IntKind.i64.wrap ((i : Int) + 2) + (x : Int))) * 1))) = A' := ⟨_, rfl⟩
    rw [hAk] at hrk
    rw [hAv] at hrv
    ((conv => whnf); repeat (first | (apply load_at; (conv => lhs; whnf); (with_reducible assumption); rfl; (conv => whnf)) | (apply loads_at; (conv => lhs; whnf); (with_reducible assumption); rfl; (conv => whnf)) | (refine ⟨⟨by omega, by omega⟩, ?_⟩; (conv => whnf))))
    refine append_mine tab_ok rfl rfl ?hq rfl rfl ⟨_, rfl, fun k h => by cases h⟩ ⟨_, rfl, rfl⟩ (by decide) (Mine.nil F6 F6 5 1 (Ext.refl F6)) (m := x) (ys := bytesOf ((b.drop (i + 2)).take x)) (y := .slice Ak x (c - (Int.toNat (IntKind.i64.wrap ((i : Int) + 2))))) ⟨by rw [bytes_len, hkl]; exact (Nat.mul_one _).symm, .inl ⟨_, _, rfl, hrk⟩⟩ (hone_bytes _) (by show 2 * (0 + x) * 1 ≤ _; omega) fun S7 F7 hM7 hk7 => ?_
    case hq =>
      conv => lhs; whnf
      exact slice_eq hAk (by rw [n2, n3]; omega) rfl
    rw [Nat.zero_add, List.nil_append] at hM7
    obtain ⟨A7, c7, rfl, hc7, hR7⟩ := hM7.own.row
    have hN7 : ∀ a, A7 = some a → F6 a.block = none := fun a ha => by subst ha; exact hM7.fresh a.block rfl
    have hE7 := hM7.ext
    have hG7 := hE7 _ _ hG
    have hW7 := hE7 _ _ hW
    have hrow7 := hrow.mono hE7
    clear hk7 hM7 hrk
    refine short [0, 2, 4, 5, 7, 8, 9, 10, 68] [.slice (some ad) b.length c, .pointer (some ⟨w, 0, none⟩), .pointer (some ⟨g, 0, none⟩), .int .i64 (many : Int), .int .i64 (i : Int), .int .i64 (j : Int), .int .i64 (x : Int), .int .i64 (y : Int), .slice A7 x c7] rfl fun ρ => ?_
    have hS7 := hM.mono hE7
    obtain ⟨As, cs, rfl, hcs, hRs⟩ := hS7.own.row
    (conv => whnf)
    refine draw_cut (fun env' F' => ∃ (S' : Value) (r : PR) (G' : Heap), pd r = pp ∧ F' g = some (bkO d nx S') ∧ F' w = some zeroB ∧ Ext F G' ∧ G' g = none ∧ G' w = none ∧ Mine G' F' S' 54 2 (rs.length + 1) (prsV (rs ++ [r])) ∧ (∀ x ∈ rs ++ [r], PrOk G' x) ∧ env' 0 = .slice (some ad) b.length c ∧ env' 2 = .pointer (some ⟨w, 0, none⟩) ∧ env' 4 = .pointer (some ⟨g, 0, none⟩) ∧ env' 5 = .int .i64 (many : Int) ∧ env' 7 = .int .i64 (i : Int) ∧ env' 8 = .int .i64 (j : Int) ∧ env' 9 = .int .i64 (x : Int) ∧ env' 10 = .int .i64 (y : Int)) (fun K hK => ?_) ?_
    · refine draw_tree_at tab_ok (by kernel_rfl) [] (DT.row [0, 1, 2, 3, 4, 5, 6, 7, 8, 9, 10, 11, 12, 13, 14, 15, 16, 17, 18, 19, 20] .nil) (by kernel_rfl) (fun _ => none) (fun _ _ h => by cases h) ?_
      ((conv => whnf); repeat (first | (apply load_at; (conv => lhs; whnf); (with_reducible assumption); rfl; (conv => whnf)) | (apply loads_at; (conv => lhs; whnf); (with_reducible assumption); rfl; (conv => whnf)) | (refine ⟨⟨by omega, by omega⟩, ?_⟩; (conv => whnf))))
      refine append_mine tab_ok rfl rfl ?hq rfl rfl ⟨_, rfl, fun k h => by cases h⟩ ⟨_, rfl, rfl⟩ (by decide) (Mine.nil F7 F7 5 1 (Ext.refl F7)) (m := y) (ys := bytesOf ((b.drop (i + 2 + x)).take y)) (y := .slice Av y (c - Int.toNat (IntKind.i64.wrap (IntKind.i64.wrap ((i : Int) + 2) + (x : Int))))) ⟨by rw [bytes_len, hvl]; exact (Nat.mul_one _).symm, .inl ⟨_, _, rfl, hrv F7 hrow7⟩⟩ (hone_bytes _) (by show 2 * (0 + y) * 1 ≤ _; omega) fun S8 F8 hM8 hk8 => ?_
      case hq =>
        conv => lhs; whnf
        exact slice_eq hAv (by rw [n3, n4]; omega) rfl
      rw [Nat.zero_add, List.nil_append] at hM8
      obtain ⟨A8, c8, rfl, hc8, hR8⟩ := hM8.own.row
      have hN8 : ∀ a, A8 = some a → F7 a.block = none := fun a ha => by subst ha; exact hM8.fresh a.block rfl
      have hE8 := hM8.ext
      refine ⟨fun _ _ h => (by cases h), ?_⟩
      (conv => whnf)
      refine ⟨hE8, ?_⟩
      (conv => whnf)
      refine new_step (.cells (prC (.slice A7 x c7) (.slice A8 y c8)) 54) rfl fun z h0_z => ?_
      have hE_z := Ext.new h0_z (.cells (prC (.slice A7 x c7) (.slice A8 y c8)) 54)
      have hB_z := Heap.put_same F8 z (.cells (prC (.slice A7 x c7) (.slice A8 y c8)) 54)
      generalize F8.put z _ = F9 at hE_z hB_z ⊢
      refine ⟨fun _ _ h => (by cases h), ?_⟩
      (conv => whnf)
      refine ⟨hE_z, ?_⟩
      have hG8 := hE8 _ _ hG7
      have hW8 := hE8 _ _ hW7
      have hG9 := hE_z _ _ hG8
      have hW9 := hE_z _ _ hW8
      have hS8 := hS7.mono hE8
      have hthere : ∀ k, blk (.slice As rs.length cs) = some k → F6 k ≠ none := fun k hk => hM.own.there hk
      have hms : ∀ m ∈ g :: w :: (blk (.slice As rs.length cs)).toList, G m = none ∧ F6 m ≠ none := by
        intro m hm
        simp only [List.mem_cons, Option.mem_toList] at hm
        rcases hm with rfl | rfl | hm
        · exact ⟨hg1, by rw [hG]; simp⟩
        · exact ⟨hw1, by rw [hW]; simp⟩
        · exact ⟨hM.fresh m hm, hthere m hm⟩
      have hG' : Ext G (lessL F8 (g :: w :: (blk (.slice As rs.length cs)).toList)) := ext_lessL hS8.ext fun m hm => (hms m hm).1
      have hn8 : ∀ a, A8 = some a → F6 a.block = none := fun a ha => hE7.none (hN8 a ha)
      have hok' : ∀ e ∈ rs ++ [(⟨(b.drop (i + 2)).take x, A7, c7, (b.drop (i + 2 + x)).take y, A8, c8⟩ : PR)], PrOk (lessL F8 (g :: w :: (blk (.slice As rs.length cs)).toList)) e := by
        intro e he
        rcases List.mem_append.1 he with he | he
        · exact (hok e he).mono hG'
        · rw [List.mem_singleton.1 he]
          exact ⟨rowAt_lessL (hR7.mono hE8) (fun a ha e => (hms _ e).2 (hN7 a ha)), rowAt_lessL hR8 (fun a ha e => (hms _ e).2 (hn8 a ha)), by show ((b.drop (i + 2)).take x).length ≤ c7; omega, by show ((b.drop (i + 2 + x)).take y).length ≤ c8; omega⟩
      have hg' : (lessL F8 (g :: w :: (blk (.slice As rs.length cs)).toList)) g = none := lessL_none (by simp)
      have hw' : (lessL F8 (g :: w :: (blk (.slice As rs.length cs)).toList)) w = none := lessL_none (by simp)
      have hM9 : Mine (lessL F8 (g :: w :: (blk (.slice As rs.length cs)).toList)) F9 (.slice As rs.length cs) 54 2 rs.length (prsV rs) := (hS8.mono hE_z).up ((lessL_ext _ _).trans hE_z) fun k hk => lessL_none (by simp [hk])
      replace hFG := hFG.trans hG'
      generalize lessL F8 (g :: w :: (blk (.slice As rs.length cs)).toList) = G2 at hFG hok' hg' hw' hM9
      have hbg : blk (.slice As rs.length cs) ≠ some g := hM9.own.blk_ne hG9 pair_bucket
      have hbw : blk (.slice As rs.length cs) ≠ some w := hM9.own.blk_ne hW9 pair_bucket
      (conv => whnf)
      refine append_mine tab_ok rfl rfl rfl rfl rfl ⟨_, rfl, fun k h => by cases h⟩ ⟨_, rfl, rfl⟩ (by decide) hM9 (m := 1) (ys := (prC (.slice A7 x c7) (.slice A8 y c8)).toList) (y := .slice (some ⟨z, 0, none⟩) 1 1) ⟨rfl, .inl ⟨_, _, rfl, row_blk hB_z⟩⟩ (os2 _ _ _ _ _ _) (by show 2 * (rs.length + 1) * 48 ≤ _; omega) fun S9 F10 hM10 hk10 => ?_
      have hG10 := hk10 _ _ hG9 hbg
      have hW10 := hk10 _ _ hW9 hbw
      have hbg10 : blk S9 ≠ some g := hM10.own.blk_ne hG10 pair_bucket
      obtain ⟨A9, c9, rfl, hc9, hR9⟩ := hM10.own.row
      refine ⟨fun _ _ h => (by cases h), ?_⟩
      (conv => whnf)
      refine store_step g 2 _ (bkC d nx (.slice A9 (rs.length + 1) c9)) rfl hG10 rfl rfl (.inl (Nat.le_refl 0)) (one_slice _ _ _) ?_
      have hG11 := Heap.put_same F10 g (bkO d nx (.slice A9 (rs.length + 1) c9))
      have hW11 := (Heap.put_other F10 (bkO d nx (.slice A9 (rs.length + 1) c9)) hwg).trans hW10
      have hM11 := hM10.put hg' hbg10 (bkO d nx (.slice A9 (rs.length + 1) c9))
      generalize F10.put g _ = F11 at hG11 hW11 hM11 ⊢
      refine ⟨fun _ _ h => (by cases h), ?_⟩
      (conv => whnf)
      have hpv : prsV rs ++ (prC (.slice A7 x c7) (.slice A8 y c8)).toList = prsV (rs ++ [(⟨(b.drop (i + 2)).take x, A7, c7, (b.drop (i + 2 + x)).take y, A8, c8⟩ : PR)]) := by rw [prsV_app]; unfold prA; dsimp only; rw [hkl, hvl]
      exact hK _ _ ⟨_, ⟨(b.drop (i + 2)).take x, A7, c7, (b.drop (i + 2 + x)).take y, A8, c8⟩, G2, hpp.symm, hG11, hW11, hFG, hg', hw', by rw [← hpv]; exact hM11, hok', rfl, rfl, rfl, rfl, rfl, rfl, rfl, rfl⟩
    rintro env' F12 ⟨S', r, G', hpd, hG12, hW12, hFG', hg', hw', hM12, hok', q0, q2, q4, q5, q7, q8, q9, q10⟩
    refine short [0, 2, 4, 5, 7, 8, 9, 10] [.slice (some ad) b.length c, .pointer (some ⟨w, 0, none⟩), .pointer (some ⟨g, 0, none⟩), .int .i64 (many : Int), .int .i64 (i : Int), .int .i64 (j : Int), .int .i64 (x : Int), .int .i64 (y : Int)] (by simp only [List.map_cons, List.map_nil, q0, q2, q4, q5, q7, q8, q9, q10]) fun ρ => ?_
    have hmap : (rs ++ [r]).map pd = rs.map pd ++ [pp] := by rw [List.map_append, List.map_singleton, hpd]
    ((conv => whnf); repeat (first | (apply load_at; (conv => lhs; whnf); (with_reducible assumption); rfl; (conv => whnf)) | (apply loads_at; (conv => lhs; whnf); (with_reducible assumption); rfl; (conv => whnf)) | (refine ⟨⟨by omega, by omega⟩, ?_⟩; (conv => whnf))))
    refine ⟨m, by omega, j + 1, pn, S', rs ++ [r], G', by omega, ?_, ?_, ?_, hple, hG12, hW12, hFG', hg', hw', ?_, hok'⟩
    · rw [← wrap_succ (j := j) (by omega), hpn, ← wi4]
      rfl
    · rw [hmap]
      exact hgy
    · rw [hmap]
      exact hsm.symm
    · rw [List.length_append, List.length_singleton]
      exact hM12
  · have hj : ¬ j < many := by have := of_decide_eq_false h; omega
    obtain rfl : mm = 0 := by omega
    have hgo' : prsGo b many 8 [] = some (rs.map pd) := hgo
    rw [hgo'] at hpb
    dsimp only at hpb
    have hsm : Sm rs := Sm.of_sum (by omega)
    obtain ⟨A2, c2, rfl, hc2, hR2⟩ := hM.own.row
    have hpt := rput d nx rs A2 c2 F5 hR2 (fun r hr => (hok r hr).mono hM.ext) hsm
    unfold PutR at hpt
    rw [hbd] at hpb
    generalize hB : (⟨d, nx, rs.map pd⟩ : BD) = B at hpb hpt
    ((conv => whnf); repeat (first | (apply load_at; (conv => lhs; whnf); (with_reducible assumption); rfl; (conv => whnf)) | (apply loads_at; (conv => lhs; whnf); (with_reducible assumption); rfl; (conv => whnf)) | (refine ⟨⟨by omega, by omega⟩, ?_⟩; (conv => whnf))))
    refine call_of hpt ?_
    rintro v F6 hv
    rcases hv with ⟨hmy, S, rfl, hP⟩ | ⟨hmy, rfl, hE6⟩
    case inr =>
      rw [if_neg (fun e => by rw [hmy] at e; cases e.1)] at hpb
      have hW6 := hE6 _ _ hW
      ((conv => whnf); repeat (first | (apply load_at; (conv => lhs; whnf); (with_reducible assumption); rfl; (conv => whnf)) | (apply loads_at; (conv => lhs; whnf); (with_reducible assumption); rfl; (conv => whnf)) | (refine ⟨⟨by omega, by omega⟩, ?_⟩; (conv => whnf))))
      refine store_step w 0 _ (bkC 0 0 (.slice none 0 0)) rfl hW6 rfl rfl (.inl (Nat.le_refl 0)) ozB ?_
      ((conv => whnf); repeat (first | (apply load_at; (conv => lhs; whnf); (with_reducible assumption); rfl; (conv => whnf)) | (apply loads_at; (conv => lhs; whnf); (with_reducible assumption); rfl; (conv => whnf)) | (refine ⟨⟨by omega, by omega⟩, ?_⟩; (conv => whnf))))
      refine res_cells tab_ok rfl rfl (Heap.put_same _ _ _) rfl ?_
      ((conv => whnf); repeat (first | (apply load_at; (conv => lhs; whnf); (with_reducible assumption); rfl; (conv => whnf)) | (apply loads_at; (conv => lhs; whnf); (with_reducible assumption); rfl; (conv => whnf)) | (refine ⟨⟨by omega, by omega⟩, ?_⟩; (conv => whnf))))
      exact no _ hpb ((hFG.trans (hM.ext.trans hE6)).put h0_w _)
    have hW6 := hP.ext _ _ hW
    have hG6 := hP.ext _ _ hG
    obtain ⟨A3, c3, rfl, hc3, hR3⟩ := hP.own.row
    have hpl : (pageB B).length = 240 := pageB_len ((mayB_iff B).1 hmy)
    have heq := str_beq (pageB B) b
    generalize hz : (pageB B == b) = z at heq
    have hrb6 := hr.mono (hFG.trans (hM.ext.trans hP.ext))
    ((conv => whnf); repeat (first | (apply load_at; (conv => lhs; whnf); (with_reducible assumption); rfl; (conv => whnf)) | (apply loads_at; (conv => lhs; whnf); (with_reducible assumption); rfl; (conv => whnf)) | (refine ⟨⟨by omega, by omega⟩, ?_⟩; (conv => whnf))))
    refine conv_str tab_ok (pageB B) rfl (slice_eq rfl hpl.symm rfl) rfl rfl rfl hR3 ?_
    (conv => whnf)
    refine conv_str tab_ok b rfl rfl rfl rfl rfl hrb6 ?_
    (conv => whnf)
    refine cond_split (fun h => ?_) (fun h => ?_)
    · have h : (!((⟨(pageB B).toArray⟩ : ByteArray).toList == (⟨b.toArray⟩ : ByteArray).toList)) = true := h
      rw [heq] at h
      obtain rfl : z = false := by simpa using h
      have hne : ¬ pageB B = b := by rw [← beq_iff_eq, hz]; decide
      rw [if_neg (fun e => hne e.2)] at hpb
      ((conv => whnf); repeat (first | (apply load_at; (conv => lhs; whnf); (with_reducible assumption); rfl; (conv => whnf)) | (apply loads_at; (conv => lhs; whnf); (with_reducible assumption); rfl; (conv => whnf)) | (refine ⟨⟨by omega, by omega⟩, ?_⟩; (conv => whnf))))
      refine store_step w 0 _ (bkC 0 0 (.slice none 0 0)) rfl hW6 rfl rfl (.inl (Nat.le_refl 0)) ozB ?_
      ((conv => whnf); repeat (first | (apply load_at; (conv => lhs; whnf); (with_reducible assumption); rfl; (conv => whnf)) | (apply loads_at; (conv => lhs; whnf); (with_reducible assumption); rfl; (conv => whnf)) | (refine ⟨⟨by omega, by omega⟩, ?_⟩; (conv => whnf))))
      refine res_cells tab_ok rfl rfl (Heap.put_same _ _ _) rfl ?_
      ((conv => whnf); repeat (first | (apply load_at; (conv => lhs; whnf); (with_reducible assumption); rfl; (conv => whnf)) | (apply loads_at; (conv => lhs; whnf); (with_reducible assumption); rfl; (conv => whnf)) | (refine ⟨⟨by omega, by omega⟩, ?_⟩; (conv => whnf))))
      exact no _ hpb ((hFG.trans (hM.ext.trans hP.ext)).put h0_w _)
    · have h : (!((⟨(pageB B).toArray⟩ : ByteArray).toList == (⟨b.toArray⟩ : ByteArray).toList)) = false := h
      rw [heq] at h
      obtain rfl : z = true := by simpa using h
      rw [beq_iff_eq] at hz
      rw [if_pos ⟨hmy, hz⟩] at hpb
      have hX := hM.ext.trans hP.ext
      ((conv => whnf); repeat (first | (apply load_at; (conv => lhs; whnf); (with_reducible assumption); rfl; (conv => whnf)) | (apply loads_at; (conv => lhs; whnf); (with_reducible assumption); rfl; (conv => whnf)) | (refine ⟨⟨by omega, by omega⟩, ?_⟩; (conv => whnf))))
      refine store_step w 0 _ (bkC d nx (.slice A2 rs.length c2)) rfl hW6 rfl rfl (.inl (Nat.le_refl 0)) (osB _ _ _ _ _) ?_
      have hE8 : Ext G (F6.put w (bkO d nx (.slice A2 rs.length c2))) := hX.put hw1 _
      have hk8 : Keeps F6 (F6.put w (bkO d nx (.slice A2 rs.length c2))) (some w) := Keeps.put _ _ _
      have hR8 := rowAt_keepq (hR2.mono hP.ext) hk8 (fun a ha e => by subst ha; exact hM.own.blk_ne hW pair_bucket (by rw [← e]; rfl))
      ((conv => whnf); repeat (first | (apply load_at; (conv => lhs; whnf); (with_reducible assumption); rfl; (conv => whnf)) | (apply loads_at; (conv => lhs; whnf); (with_reducible assumption); rfl; (conv => whnf)) | (refine ⟨⟨by omega, by omega⟩, ?_⟩; (conv => whnf))))
      refine res_cells tab_ok rfl rfl (Heap.put_same _ _ _) rfl ?_
      ((conv => whnf); repeat (first | (apply load_at; (conv => lhs; whnf); (with_reducible assumption); rfl; (conv => whnf)) | (apply loads_at; (conv => lhs; whnf); (with_reducible assumption); rfl; (conv => whnf)) | (refine ⟨⟨by omega, by omega⟩, ?_⟩; (conv => whnf))))
      subst hB
      exact ⟨.inl ⟨_, rs, A2, c2, hpb, rfl, rfl, hR8, fun r hr => (hok r hr).mono hE8, hsm⟩, hFG.trans hE8⟩
end Go.Proofs.Ytkahpaipciooiad.Al

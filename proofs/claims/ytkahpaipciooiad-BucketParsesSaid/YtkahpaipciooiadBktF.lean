/- Buckets: bucket.Parse, over what is known of memory. -/
import Derived.Test.YtkahpaipciooiadBktE
namespace Go.Proofs.Ytkahpaipciooiad.Al
open Go Go.Al Go.Proofs Go.RowKit
set_option maxHeartbeats 8000000
set_option maxRecDepth 100000
set_option linter.unusedVariables false
set_option linter.unusedSimpArgs false
def prsGo (b : List UInt8) : Nat → Nat → List PD → Option (List PD)
  | 0, _, acc => some acc
  | n + 1, i, acc => if pairOk b i then prsGo b n (pairN b i) (acc ++ [pairP b i]) else none
def bdOf (b : List UInt8) (ps : List PD) : BD := ⟨((b.getD 1 0).toNat : Int), getN b 2 4, ps⟩
open Classical in
noncomputable def parseB (b : List UInt8) : Option BD :=
  if b.length = 240 then
    match prsGo b (getN b 6 2).toNat 8 [] with
    | none => none
    | some ps => if mayB (bdOf b ps) = true ∧ pageB (bdOf b ps) = b then some (bdOf b ps) else none
  else none
/-- What Parse hands back. -/
def ParR (b : List UInt8) (v : Value) (F : Heap) : Prop :=
  (∃ B rs A c, parseB b = some B ∧ rs.map pd = B.ps ∧ v = .tuple #[.agg (bkC B.d B.nx (.slice A rs.length c)), .int .i64 0] ∧ RowAt F A (prsV rs) ∧ (∀ r ∈ rs, PrOk F r) ∧ Sm rs) ∨ (parseB b = none ∧ v = .tuple #[.agg (bkC 0 0 (.slice none 0 0)), .int .i64 4])
theorem sumP_app (ps : List PD) (p : PD) : sumP (ps ++ [p]) = sumP ps + psz p := by
  induction ps with
  | nil => show psz p + 0 = 0 + psz p; omega
  | cons q ps ih => show psz q + sumP (ps ++ [p]) = psz q + sumP ps + psz p; omega
theorem pairP_len {b : List UInt8} {i : Nat} (h : pairOk b i) : i + psz (pairP b i) = pairN b i := by
  obtain ⟨h1, h2⟩ := h
  unfold psz pairP pairN
  simp only [List.length_take, List.length_drop]
  omega
theorem sumP_mem {ps : List PD} {p : PD} (h : p ∈ ps) : psz p ≤ sumP ps := by
  induction ps with
  | nil => cases h
  | cons q ps ih =>
    show _ ≤ psz q + sumP ps
    rcases List.mem_cons.1 h with rfl | h
    · omega
    · have := ih h; omega
theorem Sm.of_sum {rs : List PR} (h : 8 + sumP (rs.map pd) ≤ 240) : Sm rs := by
  have h1 := sumP_ge (rs.map pd)
  rw [List.length_map] at h1
  refine ⟨by omega, fun r hr => ?_⟩
  have := sumP_mem (List.mem_map_of_mem (f := pd) hr)
  have h2 : psz (pd r) = 2 + r.k.length + r.v.length := rfl
  omega
theorem getN2 (b : List UInt8) (i : Nat) : getN b i 2 = (((getN b i 2).toNat : Nat) : Int) ∧ (getN b i 2).toNat ≤ 65535 := by
  unfold getN
  split
  · have hl : ((b.drop i).take 2).length ≤ 4 := by rw [List.length_take]; omega
    have h1 := gB_lt ((b.drop i).take 2)
    have h2 : ((b.drop i).take 2).length ≤ 2 := by rw [List.length_take]; omega
    have h3 : 256 ^ ((b.drop i).take 2).length ≤ 256 ^ 2 := Nat.pow_le_pow_right (by decide) h2
    rw [getV_nat hl]
    omega
  · omega
abbrev zeroB : Obj := bkO 0 0 (.slice none 0 0)
theorem ozB : ∀ v ∈ [Value.int .i64 0, .int .i64 0, .slice none 0 0], v.oneCell' = true := by simp [Value.oneCell']
theorem osB (d nx : Int) (A : Option Addr) (n c : Nat) : ∀ v ∈ [Value.int .i64 d, .int .i64 nx, .slice A n c], v.oneCell' = true := by simp [Value.oneCell']
theorem cur_bucket : (59 : Nat) ≠ 26 := by decide
theorem pair_bucket : (54 : Nat) ≠ 26 := by decide
theorem pair_cur : (54 : Nat) ≠ 59 := by decide
theorem parse (b : List UInt8) (A : Option Addr) (c : Nat) (F : Heap) (hr : RowAt F A (bytesOf b)) (hl : b.length ≤ 1000) (hc : b.length ≤ c) :
    FnK Try.prog 10 #[.slice A b.length c] F (fun v F' => ParR b v F' ∧ Ext F F') := by
  have no : ∀ F' : Heap, parseB b = none → Ext F F' → ParR b (.tuple #[.agg (bkC 0 0 (.slice none 0 0)), .int .i64 4]) F' ∧ Ext F F' := fun F' h h2 => ⟨.inr ⟨h, rfl⟩, h2⟩
  have hpb : parseB b = if b.length = 240 then (match prsGo b (getN b 6 2).toNat 8 [] with
    | none => none
    | some ps => if mayB (bdOf b ps) = true ∧ pageB (bdOf b ps) = b then some (bdOf b ps) else none) else none := by unfold parseB; congr
  (refine fn_walk tab_ok Try.func10 rfl rfl rfl rfl ?_; (conv => whnf))
  refine new_step (zeroB) rfl fun w h0_w => ?_
  have hE_w := Ext.new h0_w (zeroB)
  have hB_w := Heap.put_same F w (zeroB)
  generalize F.put w _ = F1 at hE_w hB_w ⊢
  ((conv => whnf); repeat (first | (apply load_at; (conv => lhs; whnf); (with_reducible assumption); rfl; (conv => whnf)) | (apply loads_at; (conv => lhs; whnf); (with_reducible assumption); rfl; (conv => whnf)) | (refine ⟨⟨by omega, by omega⟩, ?_⟩; (conv => whnf))))
  refine cond_split (fun h => ?_) (fun h => ?_)
  · have h : ((b.length : Int) != 240) = true := h
    have hne : ¬ b.length = 240 := fun e => by rw [e] at h; exact absurd h (by decide)
    rw [if_neg hne] at hpb
    ((conv => whnf); repeat (first | (apply load_at; (conv => lhs; whnf); (with_reducible assumption); rfl; (conv => whnf)) | (apply loads_at; (conv => lhs; whnf); (with_reducible assumption); rfl; (conv => whnf)) | (refine ⟨⟨by omega, by omega⟩, ?_⟩; (conv => whnf))))
    refine store_step w 0 _ (bkC 0 0 (.slice none 0 0)) rfl hB_w rfl rfl (.inl (Nat.le_refl 0)) ozB ?_
    ((conv => whnf); repeat (first | (apply load_at; (conv => lhs; whnf); (with_reducible assumption); rfl; (conv => whnf)) | (apply loads_at; (conv => lhs; whnf); (with_reducible assumption); rfl; (conv => whnf)) | (refine ⟨⟨by omega, by omega⟩, ?_⟩; (conv => whnf))))
    refine res_cells tab_ok rfl rfl (Heap.put_same _ _ _) rfl ?_
    ((conv => whnf); repeat (first | (apply load_at; (conv => lhs; whnf); (with_reducible assumption); rfl; (conv => whnf)) | (apply loads_at; (conv => lhs; whnf); (with_reducible assumption); rfl; (conv => whnf)) | (refine ⟨⟨by omega, by omega⟩, ?_⟩; (conv => whnf))))
    exact no _ hpb (hE_w.put h0_w _)
  have h : ((b.length : Int) != 240) = false := h
  have hbl : b.length = 240 := by have := bne_eq_false_iff_eq.1 h; omega
  rw [if_pos hbl] at hpb
  obtain ⟨hn1, hn2⟩ := getN2 b 6
  have hg2 := fun G hg => getG 4 (.inr (.inr (.inl rfl))) b A c 2 G hg (by omega) hc (by decide)
  have hg6 := fun G hg => getG 2 (.inr (.inl rfl)) b A c 6 G hg (by omega) hc (by decide)
  rw [hn1] at hg6
  generalize (getN b 6 2).toNat = many at hg6 hn2 hpb
  have hbd : ∀ ps, bdOf b ps = ⟨((b.getD 1 0).toNat : Int), getN b 2 4, ps⟩ := fun _ => rfl
  generalize getN b 2 4 = nx at hg2 hbd
  obtain ⟨ad, rfl⟩ := hr.some (by rw [bytes_len]; omega)
  have hb1 : (bytesOf b)[1]? = some (.int .u8 (b.getD 1 0).toNat) := by
    unfold bytesOf
    rw [List.getElem?_map, List.getElem?_eq_getElem (by omega : 1 < b.length)]
    simp [List.getD, List.getElem?_eq_getElem (by omega : 1 < b.length)]
  have hwd := wrap_u8 (b.getD 1 0)
  generalize ((b.getD 1 0).toNat : Int) = d at hb1 hwd hbd
  have hcell1 : F1.cell? (ad.add 1) = some (.int .u8 d) := (hr.mono hE_w).cell hb1
  ((conv => whnf); repeat (first | (apply load_at; (conv => lhs; whnf); (with_reducible assumption); rfl; (conv => whnf)) | (apply loads_at; (conv => lhs; whnf); (with_reducible assumption); rfl; (conv => whnf)) | (refine ⟨⟨by omega, by omega⟩, ?_⟩; (conv => whnf))))
  refine load_step hcell1 ?_
  (conv => whnf)
  refine new_step (zeroB) rfl fun g h0_g => ?_
  have hU_g := Heap.put_same F1 g (zeroB)
  have hX_g := fun o => (ext_put_put h0_g (o := zeroB) (o' := o))
  generalize F1.put g (zeroB) = F2 at hU_g hX_g ⊢
  (conv => whnf)
  refine store_step g 0 _ (bkC (IntKind.i64.wrap d) 0 (.slice none 0 0)) rfl hU_g rfl rfl (.inl (Nat.le_refl 0)) (osB _ _ _ _ _) ?_
  have hB_g := Heap.put_same F2 g (bkO (IntKind.i64.wrap d) 0 (.slice none 0 0))
  have hE_g := hX_g (bkO (IntKind.i64.wrap d) 0 (.slice none 0 0))
  clear hU_g hX_g
  generalize F2.put g _ = F2 at hB_g hE_g ⊢
  rw [hwd] at hB_g
  have hwg : w ≠ g := fun e => by rw [e] at hB_w; rw [hB_w] at h0_g; cases h0_g
  have hW2 := hE_g _ _ hB_w
  have hE2 := hE_w.trans hE_g
  ((conv => whnf); repeat (first | (apply load_at; (conv => lhs; whnf); (with_reducible assumption); rfl; (conv => whnf)) | (apply loads_at; (conv => lhs; whnf); (with_reducible assumption); rfl; (conv => whnf)) | (refine ⟨⟨by omega, by omega⟩, ?_⟩; (conv => whnf))))
  refine call_of (hg2 F2 (hr.mono hE2)) ?_
  rintro v F2 ⟨rfl, rfl⟩
  ((conv => whnf); repeat (first | (apply load_at; (conv => lhs; whnf); (with_reducible assumption); rfl; (conv => whnf)) | (apply loads_at; (conv => lhs; whnf); (with_reducible assumption); rfl; (conv => whnf)) | (refine ⟨⟨by omega, by omega⟩, ?_⟩; (conv => whnf))))
  refine store_step g 1 _ (bkC d nx (.slice none 0 0)) rfl hB_g rfl rfl (.inl (Nat.le_refl 0)) (one_int _ _) ?_
  have hW3 := (Heap.put_other F2 (bkO d nx (.slice none 0 0)) hwg).trans hW2
  have hG3 := Heap.put_same F2 g (bkO d nx (.slice none 0 0))
  have hg0 := hE_w.none h0_g
  have hE3 := hE2.put hg0 (bkO d nx (.slice none 0 0))
  have hnone3 : ∀ k, (F2.put g (bkO d nx (.slice none 0 0))) k = none → F2 k = none := fun k hk => by
    by_cases e : k = g
    · rw [e, hG3] at hk; cases hk
    · rwa [Heap.put_other _ _ e] at hk
  generalize F2.put g _ = F3 at hW3 hG3 hE3 hnone3 ⊢
  ((conv => whnf); repeat (first | (apply load_at; (conv => lhs; whnf); (with_reducible assumption); rfl; (conv => whnf)) | (apply loads_at; (conv => lhs; whnf); (with_reducible assumption); rfl; (conv => whnf)) | (refine ⟨⟨by omega, by omega⟩, ?_⟩; (conv => whnf))))
  refine call_of (hg6 F3 (hr.mono hE3)) ?_
  rintro v F3 ⟨rfl, rfl⟩
  ((conv => whnf); repeat (first | (apply load_at; (conv => lhs; whnf); (with_reducible assumption); rfl; (conv => whnf)) | (apply loads_at; (conv => lhs; whnf); (with_reducible assumption); rfl; (conv => whnf)) | (refine ⟨⟨by omega, by omega⟩, ?_⟩; (conv => whnf))))
  refine new_step (curO (.slice (some ad) b.length c) 8 false) rfl fun q h0_q => ?_
  have hE_q := Ext.new h0_q (curO (.slice (some ad) b.length c) 8 false)
  have hB_q := Heap.put_same F3 q (curO (.slice (some ad) b.length c) 8 false)
  generalize F3.put q _ = F4 at hE_q hB_q ⊢
  have hW4 := hE_q _ _ hW3
  have hG4 := hE_q _ _ hG3
  have hq0 := hE3.none h0_q
  have hE4 := hE3.trans hE_q
  have hqg : q ≠ g := fun e => by rw [e, hG3] at h0_q; cases h0_q
  have hqw : q ≠ w := fun e => by rw [e, hW3] at h0_q; cases h0_q
  have hadq : ∀ a, some ad = some a → a.block ≠ q := fun a ha e => by
    cases ha
    obtain ⟨_, _, _, h3, _⟩ := cell_block (hr.cell hb1)
    rw [add_block, e, hq0] at h3
    cases h3
  ((conv => whnf); repeat (first | (apply load_at; (conv => lhs; whnf); (with_reducible assumption); rfl; (conv => whnf)) | (apply loads_at; (conv => lhs; whnf); (with_reducible assumption); rfl; (conv => whnf)) | (refine ⟨⟨by omega, by omega⟩, ?_⟩; (conv => whnf))))
  refine loop_slots [0, 2, 4, 7, 34, 35] (fun mm vs F' => ∃ (j i : Nat) (S : Value) (rs : List PR) (G : Heap), j + mm = many ∧ vs = [.slice (some ad) b.length c, .pointer (some ⟨w, 0, none⟩), .pointer (some ⟨g, 0, none⟩), .pointer (some ⟨q, 0, none⟩), .int .i64 (many : Int), .int .i64 (j : Int)] ∧ prsGo b many 8 [] = prsGo b mm i (rs.map pd) ∧ i = 8 + sumP (rs.map pd) ∧ i ≤ 240 ∧ F' q = some (curO (.slice (some ad) b.length c) i false) ∧ F' g = some (bkO d nx S) ∧ F' w = some zeroB ∧ Ext F G ∧ G q = none ∧ G g = none ∧ G w = none ∧ Mine G F' S 54 2 rs.length (prsV rs) ∧ ∀ r ∈ rs, PrOk G r) many ⟨0, 8, .slice none 0 0, [], F, by omega, rfl, rfl, rfl, by decide, hB_q, hG4, hW4, Ext.refl F, hq0, hg0, h0_w, Mine.nil _ _ _ _ hE4, fun r h => by cases h⟩ ?_
  clear hB_q hG4 hW4 hE4 hW3 hG3 hE3 hE2 hW2 hB_g hE_g hB_w hE_w hcell1 hE_q h0_q hnone3 h0_g
  rintro mm vs F5 ρ ⟨j, i, S, rs, G, hjm, rfl, hgo, hi, hi2, hQ, hG, hW, hFG, hq1, hg1, hw1, hM, hok⟩
  (conv => whnf)
  refine cond_split (fun h => ?_) (fun h => ?_)
  · have hj : j < many := by have := of_decide_eq_true h; omega
    obtain ⟨m, rfl⟩ : ∃ m, mm = m + 1 := ⟨mm - 1, by omega⟩
    have hgo' : prsGo b many 8 [] = if pairOk b i then prsGo b m (pairN b i) (rs.map pd ++ [pairP b i]) else none := hgo
    clear hgo
    have hpr := pair b (some ad) c i F5 q (hr.mono (hFG.trans hM.ext)) hadq hQ hl hc (by omega)
    have hbS : blk S ≠ some q := hM.own.blk_ne hQ pair_cur
    have hthere : ∀ k, blk S = some k → F5 k ≠ none := fun k hk => hM.own.there hk
    ((conv => whnf); repeat (first | (apply load_at; (conv => lhs; whnf); (with_reducible assumption); rfl; (conv => whnf)) | (apply loads_at; (conv => lhs; whnf); (with_reducible assumption); rfl; (conv => whnf)) | (refine ⟨⟨by omega, by omega⟩, ?_⟩; (conv => whnf))))
    refine call_of hpr ?_
    rintro v F6 ⟨hk6, r, rfl, hv⟩
    have hG6 := hk6 _ _ hG (fun e => hqg (Option.some.inj e))
    have hW6 := hk6 _ _ hW (fun e => hqw (Option.some.inj e))
    have hM6 := hM.keeps hbS hk6 hq1
    ((conv => whnf); repeat (first | (apply load_at; (conv => lhs; whnf); (with_reducible assumption); rfl; (conv => whnf)) | (apply loads_at; (conv => lhs; whnf); (with_reducible assumption); rfl; (conv => whnf)) | (refine ⟨⟨by omega, by omega⟩, ?_⟩; (conv => whnf))))
    refine new_step (zeroP) rfl fun u h0_u => ?_
    have hU_u := Heap.put_same F6 u (zeroP)
    have hX_u := fun o => (ext_put_put h0_u (o := zeroP) (o' := o))
    generalize F6.put u (zeroP) = F7 at hU_u hX_u ⊢
    (conv => whnf)
    refine store_step u 0 _ (prA r) rfl hU_u rfl rfl (.inl (Nat.le_refl 0)) (pr_one r) ?_
    have hB_u := Heap.put_same F7 u (.cells (prA r) 54)
    have hE_u := hX_u (.cells (prA r) 54)
    clear hU_u hX_u
    generalize F7.put u _ = F7 at hB_u hE_u ⊢
    have hG7 := hE_u _ _ hG6
    have hW7 := hE_u _ _ hW6
    have hM7 := hM6.mono hE_u
    rcases hv with ⟨hpo, hpd, hrok, hrn, hQ6⟩ | ⟨hpo, i', hQ6⟩
    case inr =>
      have hQ7 := hE_u _ _ hQ6
      rw [if_neg hpo] at hgo'
      rw [hgo'] at hpb
      ((conv => whnf); repeat (first | (apply load_at; (conv => lhs; whnf); (with_reducible assumption); rfl; (conv => whnf)) | (apply loads_at; (conv => lhs; whnf); (with_reducible assumption); rfl; (conv => whnf)) | (refine ⟨⟨by omega, by omega⟩, ?_⟩; (conv => whnf))))
      refine store_step w 0 _ (bkC 0 0 (.slice none 0 0)) rfl hW7 rfl rfl (.inl (Nat.le_refl 0)) ozB ?_
      ((conv => whnf); repeat (first | (apply load_at; (conv => lhs; whnf); (with_reducible assumption); rfl; (conv => whnf)) | (apply loads_at; (conv => lhs; whnf); (with_reducible assumption); rfl; (conv => whnf)) | (refine ⟨⟨by omega, by omega⟩, ?_⟩; (conv => whnf))))
      refine res_cells tab_ok rfl rfl (Heap.put_same _ _ _) rfl ?_
      ((conv => whnf); repeat (first | (apply load_at; (conv => lhs; whnf); (with_reducible assumption); rfl; (conv => whnf)) | (apply loads_at; (conv => lhs; whnf); (with_reducible assumption); rfl; (conv => whnf)) | (refine ⟨⟨by omega, by omega⟩, ?_⟩; (conv => whnf))))
      exact no _ hpb ((hFG.trans hM7.ext).put h0_w _)
    have hQ7 := hE_u _ _ hQ6
    rw [if_pos hpo] at hgo'
    have hpl := pairP_len hpo
    have hple : pairN b i ≤ 240 := by rw [← hbl]; exact hpo.2
    have hsm : 8 + sumP (rs.map pd ++ [pairP b i]) = pairN b i := by rw [sumP_app]; omega
    have hmap : (rs ++ [r]).map pd = rs.map pd ++ [pairP b i] := by rw [List.map_append, List.map_singleton, hpd]
    have hrl : rs.length ≤ 120 := by have := sumP_ge (rs.map pd); rw [List.length_map] at this; omega
    -- the rows that nobody writes
    have hms : ∀ m ∈ q :: g :: w :: (blk S).toList, G m = none ∧ F5 m ≠ none := by
      intro m hm
      simp only [List.mem_cons, Option.mem_toList] at hm
      rcases hm with rfl | rfl | rfl | hm
      · exact ⟨hq1, by rw [hQ]; simp⟩
      · exact ⟨hg1, by rw [hG]; simp⟩
      · exact ⟨hw1, by rw [hW]; simp⟩
      · exact ⟨hM.fresh m hm, hthere m hm⟩
    have hG' : Ext G (lessL F6 (q :: g :: w :: (blk S).toList)) := ext_lessL hM6.ext fun m hm => (hms m hm).1
    have hok' : ∀ x ∈ rs ++ [r], PrOk (lessL F6 (q :: g :: w :: (blk S).toList)) x := by
      intro x hx
      rcases List.mem_append.1 hx with hx | hx
      · exact (hok x hx).mono hG'
      · rw [List.mem_singleton.1 hx]
        exact ⟨rowAt_lessL hrok.1 (fun a ha e => (hms _ e).2 (hrn.1 a ha)), rowAt_lessL hrok.2.1 (fun a ha e => (hms _ e).2 (hrn.2 a ha)), hrok.2.2⟩
    have hq' : (lessL F6 (q :: g :: w :: (blk S).toList)) q = none := lessL_none (by simp)
    have hg' : (lessL F6 (q :: g :: w :: (blk S).toList)) g = none := lessL_none (by simp)
    have hw' : (lessL F6 (q :: g :: w :: (blk S).toList)) w = none := lessL_none (by simp)
    have hM7 : Mine (lessL F6 (q :: g :: w :: (blk S).toList)) F7 S 54 2 rs.length (prsV rs) := hM7.up ((lessL_ext _ _).trans hE_u) fun k hk => lessL_none (by simp [hk])
    replace hFG := hFG.trans hG'
    generalize lessL F6 (q :: g :: w :: (blk S).toList) = G2 at hFG hok' hq' hg' hw' hM7
    clear hG' hms hM6 hM hok hq1 hg1 hw1 hpr hrok hrn hk6 hG6 hW6 hQ6 hG hW hQ hE_u hthere hbS h0_u
    obtain ⟨k, A1, c1, x, B1, cc1⟩ := r
    have hbS : blk S ≠ some q := hM7.own.blk_ne hQ7 pair_cur
    have hbg : blk S ≠ some g := hM7.own.blk_ne hG7 pair_bucket
    have hbw : blk S ≠ some w := hM7.own.blk_ne hW7 pair_bucket
    ((conv => whnf); repeat (first | (apply load_at; (conv => lhs; whnf); (with_reducible assumption); rfl; (conv => whnf)) | (apply loads_at; (conv => lhs; whnf); (with_reducible assumption); rfl; (conv => whnf)) | (refine ⟨⟨by omega, by omega⟩, ?_⟩; (conv => whnf))))
    refine new_step (.cells (prC (.slice A1 k.length c1) (.slice B1 x.length cc1)) 54) rfl fun y h0_y => ?_
    have hE_y := Ext.new h0_y (.cells (prC (.slice A1 k.length c1) (.slice B1 x.length cc1)) 54)
    have hB_y := Heap.put_same F7 y (.cells (prC (.slice A1 k.length c1) (.slice B1 x.length cc1)) 54)
    generalize F7.put y _ = F8 at hE_y hB_y ⊢
    have hQ8 := hE_y _ _ hQ7
    have hG8 := hE_y _ _ hG7
    have hW8 := hE_y _ _ hW7
    have hM8 := hM7.mono hE_y
    (conv => whnf)
    refine append_mine tab_ok rfl rfl rfl rfl rfl ⟨_, rfl, fun k h => by cases h⟩ ⟨_, rfl, rfl⟩ (by decide) hM8 (m := 1) (ys := (prC (.slice A1 k.length c1) (.slice B1 x.length cc1)).toList) (y := .slice (some ⟨y, 0, none⟩) 1 1) ⟨rfl, .inl ⟨_, _, rfl, row_blk hB_y⟩⟩ (os2 _ _ _ _ _ _) (by show 2 * (rs.length + 1) * 48 ≤ _; omega) fun S9 F9 hM9 hk9 => ?_
    have hQ9 := hk9 _ _ hQ8 hbS
    have hG9 := hk9 _ _ hG8 hbg
    have hW9 := hk9 _ _ hW8 hbw
    have hbg9 : blk S9 ≠ some g := hM9.own.blk_ne hG9 pair_bucket
    obtain ⟨A9, c9, rfl, hc9, hR9⟩ := hM9.own.row
    ((conv => whnf); repeat (first | (apply load_at; (conv => lhs; whnf); (with_reducible assumption); rfl; (conv => whnf)) | (apply loads_at; (conv => lhs; whnf); (with_reducible assumption); rfl; (conv => whnf)) | (refine ⟨⟨by omega, by omega⟩, ?_⟩; (conv => whnf))))
    refine store_step g 2 _ (bkC d nx (.slice A9 (rs.length + 1) c9)) rfl hG9 rfl rfl (.inl (Nat.le_refl 0)) (one_slice _ _ _) ?_
    have hG10 := Heap.put_same F9 g (bkO d nx (.slice A9 (rs.length + 1) c9))
    have hQ10 := (Heap.put_other F9 (bkO d nx (.slice A9 (rs.length + 1) c9)) hqg).trans hQ9
    have hW10 := (Heap.put_other F9 (bkO d nx (.slice A9 (rs.length + 1) c9)) hwg).trans hW9
    have hM10 := hM9.put hg' hbg9 (bkO d nx (.slice A9 (rs.length + 1) c9))
    generalize F9.put g _ = F10 at hG10 hQ10 hW10 hM10 ⊢
    ((conv => whnf); repeat (first | (apply load_at; (conv => lhs; whnf); (with_reducible assumption); rfl; (conv => whnf)) | (apply loads_at; (conv => lhs; whnf); (with_reducible assumption); rfl; (conv => whnf)) | (refine ⟨⟨by omega, by omega⟩, ?_⟩; (conv => whnf))))
    refine ⟨m, by omega, j + 1, pairN b i, .slice A9 (rs.length + 1) c9, rs ++ [⟨k, A1, c1, x, B1, cc1⟩], G2, by omega, ?_, ?_, ?_, hple, hQ10, hG10, hW10, hFG, hq', hg', hw', ?_, hok'⟩
    · rw [← wrap_succ (j := j) (by omega)]
      rfl
    · rw [hmap]
      exact hgo'
    · rw [hmap]
      exact hsm.symm
    · rw [prsV_app, List.length_append, List.length_singleton]
      exact hM10
  · have hj : ¬ j < many := by have := of_decide_eq_false h; omega
    obtain rfl : mm = 0 := by omega
    have hgo' : prsGo b many 8 [] = some (rs.map pd) := hgo
    rw [hgo'] at hpb
    dsimp only at hpb
    have hsm : Sm rs := Sm.of_sum (by omega)
    obtain ⟨A2, c2, rfl, hc2, hR2⟩ := hM.own.row
    have hpt := put d nx rs A2 c2 F5 hR2 (fun r hr => (hok r hr).mono hM.ext) hsm
    unfold PutR at hpt
    rw [hbd] at hpb
    generalize hB : (⟨d, nx, rs.map pd⟩ : BD) = B at hpb hpt
    ((conv => whnf); repeat (first | (apply load_at; (conv => lhs; whnf); (with_reducible assumption); rfl; (conv => whnf)) | (apply loads_at; (conv => lhs; whnf); (with_reducible assumption); rfl; (conv => whnf)) | (refine ⟨⟨by omega, by omega⟩, ?_⟩; (conv => whnf))))
    refine call_of hpt ?_
    rintro v F6 hv
    rcases hv with ⟨hmy, S, rfl, hP⟩ | ⟨hmy, rfl, hE6⟩
    case inr =>
      rw [if_neg (fun e => by rw [hmy] at e; cases e.1)] at hpb
      have hW6 := hE6 _ _ hW
      ((conv => whnf); repeat (first | (apply load_at; (conv => lhs; whnf); (with_reducible assumption); rfl; (conv => whnf)) | (apply loads_at; (conv => lhs; whnf); (with_reducible assumption); rfl; (conv => whnf)) | (refine ⟨⟨by omega, by omega⟩, ?_⟩; (conv => whnf))))
      refine store_step w 0 _ (bkC 0 0 (.slice none 0 0)) rfl hW6 rfl rfl (.inl (Nat.le_refl 0)) ozB ?_
      ((conv => whnf); repeat (first | (apply load_at; (conv => lhs; whnf); (with_reducible assumption); rfl; (conv => whnf)) | (apply loads_at; (conv => lhs; whnf); (with_reducible assumption); rfl; (conv => whnf)) | (refine ⟨⟨by omega, by omega⟩, ?_⟩; (conv => whnf))))
      refine res_cells tab_ok rfl rfl (Heap.put_same _ _ _) rfl ?_
      ((conv => whnf); repeat (first | (apply load_at; (conv => lhs; whnf); (with_reducible assumption); rfl; (conv => whnf)) | (apply loads_at; (conv => lhs; whnf); (with_reducible assumption); rfl; (conv => whnf)) | (refine ⟨⟨by omega, by omega⟩, ?_⟩; (conv => whnf))))
      exact no _ hpb ((hFG.trans (hM.ext.trans hE6)).put h0_w _)
    have hW6 := hP.ext _ _ hW
    have hG6 := hP.ext _ _ hG
    obtain ⟨A3, c3, rfl, hc3, hR3⟩ := hP.own.row
    have hpl : (pageB B).length = 240 := pageB_len ((mayB_iff B).1 hmy)
    have heq := bytesEqual (pageB B) b A3 (some ad) c3 c F6 hR3 (hr.mono (hFG.trans (hM.ext.trans hP.ext)))
    rw [hpl] at heq
    generalize hz : (pageB B == b) = z at heq
    ((conv => whnf); repeat (first | (apply load_at; (conv => lhs; whnf); (with_reducible assumption); rfl; (conv => whnf)) | (apply loads_at; (conv => lhs; whnf); (with_reducible assumption); rfl; (conv => whnf)) | (refine ⟨⟨by omega, by omega⟩, ?_⟩; (conv => whnf))))
    refine call_of heq ?_
    rintro v F6 ⟨rfl, rfl⟩
    cases z with
    | false =>
      have hne : ¬ pageB B = b := by rw [← beq_iff_eq, hz]; decide
      rw [if_neg (fun e => hne e.2)] at hpb
      ((conv => whnf); repeat (first | (apply load_at; (conv => lhs; whnf); (with_reducible assumption); rfl; (conv => whnf)) | (apply loads_at; (conv => lhs; whnf); (with_reducible assumption); rfl; (conv => whnf)) | (refine ⟨⟨by omega, by omega⟩, ?_⟩; (conv => whnf))))
      refine store_step w 0 _ (bkC 0 0 (.slice none 0 0)) rfl hW6 rfl rfl (.inl (Nat.le_refl 0)) ozB ?_
      ((conv => whnf); repeat (first | (apply load_at; (conv => lhs; whnf); (with_reducible assumption); rfl; (conv => whnf)) | (apply loads_at; (conv => lhs; whnf); (with_reducible assumption); rfl; (conv => whnf)) | (refine ⟨⟨by omega, by omega⟩, ?_⟩; (conv => whnf))))
      refine res_cells tab_ok rfl rfl (Heap.put_same _ _ _) rfl ?_
      ((conv => whnf); repeat (first | (apply load_at; (conv => lhs; whnf); (with_reducible assumption); rfl; (conv => whnf)) | (apply loads_at; (conv => lhs; whnf); (with_reducible assumption); rfl; (conv => whnf)) | (refine ⟨⟨by omega, by omega⟩, ?_⟩; (conv => whnf))))
      exact no _ hpb ((hFG.trans (hM.ext.trans hP.ext)).put h0_w _)
    | true =>
      rw [beq_iff_eq] at hz
      rw [if_pos ⟨hmy, hz⟩] at hpb
      have hX := hM.ext.trans hP.ext
      ((conv => whnf); repeat (first | (apply load_at; (conv => lhs; whnf); (with_reducible assumption); rfl; (conv => whnf)) | (apply loads_at; (conv => lhs; whnf); (with_reducible assumption); rfl; (conv => whnf)) | (refine ⟨⟨by omega, by omega⟩, ?_⟩; (conv => whnf))))
      refine store_step w 0 _ (bkC d nx (.slice A2 rs.length c2)) rfl hW6 rfl rfl (.inl (Nat.le_refl 0)) (osB _ _ _ _ _) ?_
      have hE8 : Ext G (F6.put w (bkO d nx (.slice A2 rs.length c2))) := hX.put hw1 _
      have hk8 : Keeps F6 (F6.put w (bkO d nx (.slice A2 rs.length c2))) (some w) := Keeps.put _ _ _
      have hR8 := rowAt_keepq (hR2.mono hP.ext) hk8 (fun a ha e => by subst ha; exact hM.own.blk_ne hW pair_bucket (by rw [← e]; rfl))
      ((conv => whnf); repeat (first | (apply load_at; (conv => lhs; whnf); (with_reducible assumption); rfl; (conv => whnf)) | (apply loads_at; (conv => lhs; whnf); (with_reducible assumption); rfl; (conv => whnf)) | (refine ⟨⟨by omega, by omega⟩, ?_⟩; (conv => whnf))))
      refine res_cells tab_ok rfl rfl (Heap.put_same _ _ _) rfl ?_
      ((conv => whnf); repeat (first | (apply load_at; (conv => lhs; whnf); (with_reducible assumption); rfl; (conv => whnf)) | (apply loads_at; (conv => lhs; whnf); (with_reducible assumption); rfl; (conv => whnf)) | (refine ⟨⟨by omega, by omega⟩, ?_⟩; (conv => whnf))))
      subst hB
      exact ⟨.inl ⟨_, rs, A2, c2, hpb, rfl, rfl, hR8, fun r hr => (hok r hr).mono hE8, hsm⟩, hFG.trans hE8⟩
end Go.Proofs.Ytkahpaipciooiad.Al

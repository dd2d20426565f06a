/- The contract of script.first, over what is known of memory. -/
import Derived.Test.YtkahpaipciooiadScrG
namespace Go.Proofs.Ytkahpaipciooiad.Al
open Go Go.Al Go.Proofs Go.RowKit
set_option maxHeartbeats 8000000
set_option maxRecDepth 100000
set_option linter.unusedVariables false
set_option linter.unusedSimpArgs false
theorem getN2 (b : List UInt8) (i : Nat) : getN b i 2 = (((getN b i 2).toNat : Nat) : Int) ∧ (getN b i 2).toNat ≤ 65535 := by
  unfold getN
  split
  · have hl : ((b.drop i).take 2).length ≤ 4 := by rw [List.length_take]; omega
    have h1 := gB_lt ((b.drop i).take 2)
    have h2 : ((b.drop i).take 2).length ≤ 2 := by rw [List.length_take]; omega
    have h3 : 256 ^ ((b.drop i).take 2).length ≤ 256 ^ 2 := Nat.pow_le_pow_right (by decide) h2
    rw [getV_nat hl]
    omega
  · omega
def sN (b : List UInt8) : Nat := (getN b 3 2).toNat
def tlB (b : List UInt8) : List UInt8 := b.drop (5 + sN b)
def evOf (b : List UInt8) : ED := ⟨(b.getD 0 0).toNat, getN b 1 2, (b.drop 5).take (sN b), keptL (tlB b)⟩
def firstOk (b : List UInt8) : Prop := 5 ≤ b.length ∧ 5 + sN b ≤ b.length ∧ keptOk (tlB b) ∧ checkB (evOf b) = true
instance (b : List UInt8) : Decidable (firstOk b) := by unfold firstOk; infer_instance
def firstN (b : List UInt8) : Nat := 5 + sN b + (1 + 2 * kMany (tlB b))
/-- Where a cut begins. -/
def cutA (c : Nat) (A : Option Addr) (lo : Nat) : Option Addr := if c = lo then A else A.map (·.add (lo * 1))
theorem cut_row {F : Heap} {A : Option Addr} {b : List UInt8} {c : Nat} (lo n : Nat) (hr : RowAt F A (bytesOf b)) (hc : b.length ≤ c) : RowAt F (cutA c A lo) (bytesOf ((b.drop lo).take n)) := by
  intro j v hj
  have hj' : (bytesOf b)[lo + j]? = some v := by
    unfold bytesOf at hj
    rw [List.getElem?_map, List.getElem?_take] at hj
    split at hj
    · rw [List.getElem?_drop] at hj
      rw [bytesOf, List.getElem?_map]
      exact hj
    · cases hj
  obtain ⟨ad, h1, h2⟩ := hr _ _ hj'
  subst h1
  have hj2 : lo + j < b.length := by have := (List.getElem?_eq_some_iff.1 hj').1; rwa [bytes_len] at this
  unfold cutA
  rw [if_neg (by omega), Nat.mul_one]
  exact ⟨ad.add lo, rfl, by rw [add_add]; exact h2⟩
theorem cut_tail {F : Heap} {A : Option Addr} {b : List UInt8} {c : Nat} (lo : Nat) (hr : RowAt F A (bytesOf b)) (hc : b.length ≤ c) : RowAt F (cutA c A lo) (bytesOf (b.drop lo)) := by
  have := cut_row lo (b.drop lo).length hr hc
  rwa [List.take_length] at this
theorem int_event : (3 : Nat) ≠ 47 := by decide
theorem mine_put {F0 F : Heap} {S : Value} {e n w : Nat} {vs : List Value} {cs : Array Value} (h : Mine F0 F S e 1 n vs) (h0 : F0 w = none) (hw : F w = some (.cells cs 47)) (hne : e ≠ 47) (o : Obj) : Mine F0 (F.put w o) S e 1 n vs := h.put h0 (h.own.blk_ne hw hne) o
/-- An event's rows are new. -/
def EvNew (F : Heap) (r : ER) : Prop := (∀ a, r.A = some a → F a.block = none) ∧ (∀ a, r.B = some a → F a.block = none)
/-- What the first event of bytes comes to. -/
def Fst (b : List UInt8) (A : Option Addr) (c : Nat) (F0 : Heap) (v : Value) (F : Heap) : Prop :=
  if firstOk b then ∃ A1 c1 B1 cc1, v = .tuple #[.agg (evC (evOf b).k (evOf b).n (.slice A1 (evOf b).bs.length c1) (.slice B1 (evOf b).ks.length cc1)), .slice (cutA c A (firstN b)) (b.length - firstN b) (c - firstN b), .bool true] ∧ EvOk F ⟨evOf b, A1, c1, B1, cc1⟩ ∧ EvNew F0 ⟨evOf b, A1, c1, B1, cc1⟩
  else v = .tuple #[.agg (evC 0 0 (.slice none 0 0) (.slice none 0 0)), .slice none 0 0, .bool false]
abbrev zeroE : Obj := evO 0 0 (.slice none 0 0) (.slice none 0 0)
theorem ozE : ∀ v ∈ [Value.int .i64 0, .int .i64 0, .slice none 0 0, .slice none 0 0], v.oneCell' = true := by simp [Value.oneCell']
theorem os1 (A : Option Addr) (n c : Nat) : ∀ v ∈ [Value.slice A n c], v.oneCell' = true := by simp [Value.oneCell']
theorem os4 (k n : Int) (A : Option Addr) (l c : Nat) (B : Option Addr) (l' c' : Nat) : ∀ v ∈ [Value.int .i64 k, .int .i64 n, .slice A l c, .slice B l' c'], v.oneCell' = true := by simp [Value.oneCell']
theorem first (b : List UInt8) (A : Option Addr) (c : Nat) (F : Heap) (hr : RowAt F A (bytesOf b)) (hl : b.length ≤ 50000) (hc : b.length ≤ c) :
    FnK Try.prog 50 #[.slice A b.length c] F (fun v F' => Fst b A c F v F' ∧ Ext F F') := by
  have no : ∀ F' : Heap, ¬ firstOk b → Ext F F' → Fst b A c F (.tuple #[.agg (evC 0 0 (.slice none 0 0) (.slice none 0 0)), .slice none 0 0, .bool false]) F' ∧ Ext F F' := by
    intro F' h hX
    unfold Fst
    rw [if_neg h]
    exact ⟨rfl, hX⟩
  have yes : firstOk b → ∀ (F' : Heap) A1 c1 B1 cc1, EvOk F' ⟨evOf b, A1, c1, B1, cc1⟩ → EvNew F ⟨evOf b, A1, c1, B1, cc1⟩ → Ext F F' → Fst b A c F (.tuple #[.agg (evC (evOf b).k (evOf b).n (.slice A1 (evOf b).bs.length c1) (.slice B1 (evOf b).ks.length cc1)), .slice (cutA c A (firstN b)) (b.length - firstN b) (c - firstN b), .bool true]) F' ∧ Ext F F' := by
    intro h F' A1 c1 B1 cc1 h1 h2 hX
    unfold Fst
    rw [if_pos h]
    exact ⟨⟨A1, c1, B1, cc1, rfl, h1, h2⟩, hX⟩
  have hfo : firstOk b ↔ 5 ≤ b.length ∧ 5 + sN b ≤ b.length ∧ keptOk (tlB b) ∧ checkB (evOf b) = true := Iff.rfl
  have hev : evOf b = ⟨(b.getD 0 0).toNat, getN b 1 2, (b.drop 5).take (sN b), keptL (tlB b)⟩ := rfl
  have hfn : firstN b = 5 + sN b + (1 + 2 * kMany (tlB b)) := rfl
  have htl : tlB b = b.drop (5 + sN b) := rfl
  have hg1 := fun G hg => getG 2 (.inr (.inl rfl)) b A c 1 G hg (by omega) hc (by omega)
  have hg3 := fun G hg => getG 2 (.inr (.inl rfl)) b A c 3 G hg (by omega) hc (by omega)
  have hs2 := getN2 b 3
  have hs : sN b = (getN b 3 2).toNat := rfl
  rw [← hs] at hs2
  clear hs
  obtain ⟨hs1, hs2⟩ := hs2
  rw [hs1] at hg3
  generalize firstOk b = ok at no yes hfo
  generalize evOf b = ev at yes hfo hev
  generalize firstN b = N at yes hfn
  generalize tlB b = tb at hfo hev hfn htl
  generalize sN b = s at hfo hev hfn htl hg3 hs2
  generalize getN b 1 2 = n at hg1 hev
  clear hs1
  (refine fn_walk tab_ok Try.func50 rfl rfl rfl rfl ?_; (conv => whnf))
  refine new_step zeroE rfl fun q hq => ?_
  have hE := Ext.new hq zeroE
  have hQ := Heap.put_same F q zeroE
  generalize F.put q zeroE = F1 at hE hQ ⊢
  (conv => whnf)
  refine cond_split (fun h => ?_) (fun h => ?_)
  · have h : decide ((b.length : Int) < 5) = true := h
    have h := of_decide_eq_true h
    (conv => whnf)
    refine store_step q 0 _ _ rfl hQ rfl rfl (.inl (Nat.le_refl 0)) ozE ?_
    (conv => whnf)
    refine res_cells tab_ok rfl rfl (Heap.put_same _ _ _) rfl ?_
    (conv => whnf)
    exact no _ (fun e => by have := (hfo.1 e).1; omega) (hE.put hq _)
  have h5 : 5 ≤ b.length := by
    have h : decide ((b.length : Int) < 5) = false := h
    have := of_decide_eq_false h
    omega
  obtain ⟨ad, rfl⟩ := hr.some (by rw [bytes_len]; omega)
  have hr1 := hr.mono hE
  (conv => whnf)
  refine call_of (hg1 F1 hr1) ?_
  rintro v F1 ⟨rfl, rfl⟩
  (conv => whnf)
  refine call_of (hg3 F1 hr1) ?_
  rintro v F1 ⟨rfl, rfl⟩
  (conv => whnf)
  have hsub : IntKind.i64.wrap ((b.length : Int) - 5) = ((b.length - 5 : Nat) : Int) := by rw [IntKind.wrap_i64]; omega
  refine cond_split (fun h => ?_) (fun h => ?_)
  · have h : decide ((s : Int) > IntKind.i64.wrap ((b.length : Int) - 5)) = true := h
    have h := of_decide_eq_true h
    rw [hsub] at h
    (conv => whnf)
    refine store_step q 0 _ _ rfl hQ rfl rfl (.inl (Nat.le_refl 0)) ozE ?_
    (conv => whnf)
    refine res_cells tab_ok rfl rfl (Heap.put_same _ _ _) rfl ?_
    (conv => whnf)
    exact no _ (fun e => by have := (hfo.1 e).2.1; omega) (hE.put hq _)
  have h6 : 5 + s ≤ b.length := by
    have h : decide ((s : Int) > IntKind.i64.wrap ((b.length : Int) - 5)) = false := h
    have := of_decide_eq_false h
    rw [hsub] at this
    omega
  have hlo : IntKind.i64.wrap (5 + (s : Int)) = ((5 + s : Nat) : Int) := by rw [IntKind.wrap_i64]; omega
  have hlo0 : (5 : Int) ≤ IntKind.i64.wrap (5 + (s : Int)) := by rw [hlo]; omega
  have hlo1 : IntKind.i64.wrap (5 + (s : Int)) ≤ (c : Int) := by rw [hlo]; omega
  have hlo2 : IntKind.i64.wrap (5 + (s : Int)) ≤ (b.length : Int) := by rw [hlo]; omega
  have hb0 := byte_at (show 0 < b.length by omega)
  have hxl := (b.getD 0 0).toNat_lt
  generalize b.getD 0 0 = x0 at hb0 hxl hev
  have hw0 : IntKind.i64.wrap (x0.toNat : Int) = (x0.toNat : Int) := by rw [IntKind.wrap_i64]; omega
  have hbsl : ((b.drop 5).take s).length = s := by rw [List.length_take, List.length_drop]; omega
  have hcl := fun G (hg : RowAt G (some ad) (bytesOf b)) => clone ((b.drop 5).take s) (cutA c (some ad) 5) (c - 5) G (cut_row 5 s hg hc) (by omega)
  generalize (b.drop 5).take s = bs at hbsl hcl hev
  have hVs : Value.slice (if c = 5 then some ad else (some ad).map (·.add (5 * 1))) (Int.toNat (IntKind.i64.wrap (5 + (s : Int))) - 5) (c - 5) = .slice (cutA c (some ad) 5) bs.length (c - 5) := by
    rw [hlo, Int.toNat_natCast, show 5 + s - 5 = bs.length by omega]
    rfl
  rw [← hVs] at hcl
  clear hVs
  refine draw_cut (fun env' F' => ∃ u S, Mine F1 F' S 5 1 bs.length (bytesOf bs) ∧ F1 u = none ∧ F' u = some (evO (x0.toNat : Int) n S (.slice none 0 0)) ∧ env' 0 = .slice (some ad) b.length c ∧ env' 2 = .pointer (some ⟨q, 0, none⟩) ∧ env' 7 = .int .i64 (s : Int) ∧ env' 9 = .pointer (some ⟨u, 0, none⟩)) (fun K hK => ?_) ?_
  · refine draw_tree tab_ok (by kernel_rfl) [2] (DT.row [0, 1, 2, 3, 4, 5, 6, 7, 8] (.fork (DT.row [9, 10, 11, 12] .nil) (DT.row [11, 9, 10, 12] .nil))) (by kernel_rfl) ?_
    (conv => whnf)
    refine ⟨⟨by omega, by omega⟩, ?_⟩
    (conv => whnf)
    refine load_step (v := .int .u8 (x0.toNat : Int)) ?_ ?_
    · show F1.cell? (ad.add 0) = _
      exact hr1.cell hb0
    (conv => whnf)
    refine ⟨⟨by omega, by omega⟩, ?_⟩
    (conv => whnf)
    refine ⟨⟨by omega, by omega⟩, ?_⟩
    (conv => whnf)
    refine ⟨?_, ?_⟩
    · (conv => whnf)
      refine call_of (hcl F1 hr1) ?_
      rintro S F2 hM
      obtain ⟨A3, c3, rfl, hc3, hR3⟩ := hM.own.row
      refine ⟨hM.ext, ?_⟩
      (conv => whnf)
      refine new_step zeroE rfl fun u hu => ?_
      have hX := Ext.new hu zeroE
      have hU := Heap.put_same F2 u zeroE
      have hu1 : F1 u = none := by
        cases e : F1 u with
        | none => rfl
        | some o => rw [hM.ext u o e] at hu; cases hu
      have hM3 := hM.mono hX
      generalize F2.put u zeroE = F3 at hU hM3 ⊢
      refine ⟨hM3.ext, ?_⟩
      have o1 : ∀ v ∈ [Value.int .i64 (IntKind.i64.wrap (x0.toNat : Int)), .int .i64 n, .slice A3 bs.length c3, .slice none 0 0], v.oneCell' = true := by simp [Value.oneCell']
      (conv => whnf)
      refine store_step u 0 _ (evC (x0.toNat : Int) n (.slice A3 bs.length c3) (.slice none 0 0)) rfl hU (congrArg (fun z => #[Value.int .i64 z, .int .i64 n, .slice A3 bs.length c3, .slice none 0 0]) hw0) rfl (.inl (Nat.le_refl 0)) o1 ?_
      have hM4 := mine_put hM3 hu1 hU u8_event (evO (x0.toNat : Int) n (.slice A3 bs.length c3) (.slice none 0 0))
      have hU4 := Heap.put_same F3 u (evO (x0.toNat : Int) n (.slice A3 bs.length c3) (.slice none 0 0))
      refine ⟨hM4.ext, ?_⟩
      (conv => whnf)
      exact hK _ _ ⟨u, _, hM4, hu1, hU4, rfl, rfl, rfl, rfl⟩
    · (conv => whnf)
      refine new_step zeroE rfl fun u hu => ?_
      have hX := Ext.new hu zeroE
      have hU := Heap.put_same F1 u zeroE
      generalize F1.put u zeroE = F2 at hX hU ⊢
      refine ⟨hX, ?_⟩
      (conv => whnf)
      refine call_of (hcl F2 (hr1.mono hX)) ?_
      rintro S F3 hM
      have hU := hM.ext _ _ hU
      have hM3 := hM.down hX
      refine ⟨hM3.ext, ?_⟩
      obtain ⟨A3, c3, rfl, hc3, hR3⟩ := hM3.own.row
      have o1 : ∀ v ∈ [Value.int .i64 (IntKind.i64.wrap (x0.toNat : Int)), .int .i64 n, .slice A3 bs.length c3, .slice none 0 0], v.oneCell' = true := by simp [Value.oneCell']
      (conv => whnf)
      refine store_step u 0 _ (evC (x0.toNat : Int) n (.slice A3 bs.length c3) (.slice none 0 0)) rfl hU (congrArg (fun z => #[Value.int .i64 z, .int .i64 n, .slice A3 bs.length c3, .slice none 0 0]) hw0) rfl (.inl (Nat.le_refl 0)) o1 ?_
      have hM4 := mine_put hM3 hu hU u8_event (evO (x0.toNat : Int) n (.slice A3 bs.length c3) (.slice none 0 0))
      have hU4 := Heap.put_same F3 u (evO (x0.toNat : Int) n (.slice A3 bs.length c3) (.slice none 0 0))
      refine ⟨hM4.ext, ?_⟩
      (conv => whnf)
      exact hK _ _ ⟨u, _, hM4, hu, hU4, rfl, rfl, rfl, rfl⟩
  · rintro env' F2 ⟨u, S, hM2, hu1, hU2, q0, q2, q7, q9⟩
    refine short [0, 2, 7, 9] [.slice (some ad) b.length c, .pointer (some ⟨q, 0, none⟩), .int .i64 (s : Int), .pointer (some ⟨u, 0, none⟩)] (by simp only [List.map_cons, List.map_nil, q0, q2, q7, q9]) fun ρ => ?_
    clear q0 q2 q7 q9
    have hr2 := hr1.mono hM2.ext
    obtain ⟨A2, c2, rfl, _, _⟩ := hM2.own.row
    have hk := fun G (hg : RowAt G (some ad) (bytesOf b)) => kept (b.drop (5 + s)) (cutA c (some ad) (5 + s)) (c - (5 + s)) G (cut_tail (5 + s) hg hc) (by rw [List.length_drop]; omega) (by rw [List.length_drop]; omega)
    rw [← htl] at hk
    have hVs : Value.slice (if c = Int.toNat (IntKind.i64.wrap (5 + (s : Int))) then some ad else (some ad).map (·.add (Int.toNat (IntKind.i64.wrap (5 + (s : Int))) * 1))) (b.length - Int.toNat (IntKind.i64.wrap (5 + (s : Int)))) (c - Int.toNat (IntKind.i64.wrap (5 + (s : Int)))) = .slice (cutA c (some ad) (5 + s)) tb.length (c - (5 + s)) := by
      rw [hlo, Int.toNat_natCast, htl, List.length_drop]
      rfl
    rw [← hVs] at hk
    clear hVs
    have hu0 : F u = none := by
      cases e : F u with
      | none => rfl
      | some o => rw [hE u o e] at hu1; cases hu1
    have hqu : q ≠ u := fun e => by rw [e, hu1] at hQ; cases hQ
    have hQ2 := hM2.ext _ _ hQ
    replace hM2 := hM2.down hE
    (conv => whnf)
    refine ⟨⟨by omega, by omega⟩, ?_⟩
    (conv => whnf)
    refine call_of (hk F2 hr2) ?_
    rintro v F3 ⟨hv, hE3⟩
    have hQ3 := hE3 _ _ hQ2
    have hU3 := hE3 _ _ hU2
    have hM3 := hM2.mono hE3
    by_cases hko : keptOk tb
    case neg =>
      rw [if_neg hko] at hv
      subst hv
      (conv => whnf)
      refine store_step u 3 _ (evC (x0.toNat : Int) n (.slice A2 bs.length c2) (.slice none 0 0)) rfl hU3 rfl rfl (.inl (Nat.le_refl 0)) (os1 _ _ _) ?_
      have hQ4 : (F3.put u (evO (x0.toNat : Int) n (.slice A2 bs.length c2) (.slice none 0 0))) q = some zeroE := by rw [Heap.put_other _ _ hqu]; exact hQ3
      (conv => whnf)
      refine store_step q 0 _ _ rfl hQ4 rfl rfl (.inl (Nat.le_refl 0)) ozE ?_
      (conv => whnf)
      refine res_cells tab_ok rfl rfl (Heap.put_same _ _ _) rfl ?_
      (conv => whnf)
      exact no _ (fun e => hko (hfo.1 e).2.2.1) ((hM3.ext.put hu0 _).put hq _)
    rw [if_pos hko] at hv
    obtain ⟨T, rfl, hT⟩ := hv
    replace hT := hT.down hM2.ext
    obtain ⟨B2, cc2, rfl, _, _⟩ := hT.own.row
    have hkl := keptL_len tb
    have hk5 : kMany tb ≤ 255 := by have := (tb.getD 0 0).toNat_lt; unfold kMany; omega
    obtain ⟨ks, hks⟩ : ∃ ks, keptL tb = ks := ⟨_, rfl⟩
    rw [hks] at hkl hT hev ⊢
    have hch := fun A c B cc G hg => check (x0.toNat : Int) n bs ks A c B cc G hg (by omega)
    rw [← hev] at hch
    subst hev
    generalize checkB (⟨x0.toNat, n, bs, ks⟩ : ED) = okc at hch hfo
    have htb : tb.length = b.length - (5 + s) := by rw [htl, List.length_drop]
    have hkk := hko.1
    have hN : IntKind.i64.wrap (IntKind.i64.wrap (5 + (s : Int)) + ((1 + 2 * kMany tb : Nat) : Int)) = (N : Int) := by rw [hlo, IntKind.wrap_i64]; omega
    have hNb : N ≤ b.length := by omega
    generalize hmk : 1 + 2 * kMany tb = mk at hN hkk hfn ⊢
    have hN0 : 0 ≤ IntKind.i64.wrap (IntKind.i64.wrap (5 + (s : Int)) + (mk : Int)) := by omega
    have hN1 : IntKind.i64.wrap (IntKind.i64.wrap (5 + (s : Int)) + (mk : Int)) ≤ (b.length : Int) := by omega
    (conv => whnf)
    refine store_step u 3 _ (evC (x0.toNat : Int) n (.slice A2 bs.length c2) (.slice B2 ks.length cc2)) rfl hU3 rfl rfl (.inl (Nat.le_refl 0)) (os1 _ _ _) ?_
    have hM4 := mine_put hM3 hu0 hU3 u8_event (evO (x0.toNat : Int) n (.slice A2 bs.length c2) (.slice B2 ks.length cc2))
    have hT4 := mine_put hT hu0 hU3 int_event (evO (x0.toNat : Int) n (.slice A2 bs.length c2) (.slice B2 ks.length cc2))
    have hU4 := Heap.put_same F3 u (evO (x0.toNat : Int) n (.slice A2 bs.length c2) (.slice B2 ks.length cc2))
    have hQ4 : (F3.put u (evO (x0.toNat : Int) n (.slice A2 bs.length c2) (.slice B2 ks.length cc2))) q = some zeroE := by rw [Heap.put_other _ _ hqu]; exact hQ3
    generalize F3.put u _ = F4 at hM4 hT4 hU4 hQ4 ⊢
    clear hM3 hT hU3 hQ3
    (conv => whnf)
    refine ⟨⟨_, _, _, hU4, rfl, Nat.le_refl 4, ?_⟩⟩
    (conv => whnf)
    obtain ⟨A', c', hs', _, hRS⟩ := hM4.own.row
    injection hs' with e1 e2 e3
    subst e1 e3
    obtain ⟨B', cc', hs', _, hRT⟩ := hT4.own.row
    injection hs' with e1 e2 e3
    subst e1 e3
    refine call_of (hch A2 c2 B2 cc2 F4 hRT) ?_
    rintro v F5 ⟨rfl, hE5⟩
    have hM5 := hM4.mono hE5
    have hT5 := hT4.mono hE5
    have hU5 := hE5 _ _ hU4
    have hQ5 := hE5 _ _ hQ4
    cases okc with
    | false =>
      (conv => whnf)
      refine store_step q 0 _ _ rfl hQ5 rfl rfl (.inl (Nat.le_refl 0)) ozE ?_
      (conv => whnf)
      refine res_cells tab_ok rfl rfl (Heap.put_same _ _ _) rfl ?_
      (conv => whnf)
      exact no _ (fun e => by cases (hfo.1 e).2.2.2) (hM5.ext.put hq _)
    | true =>
      have hok := hfo.2 ⟨h5, h6, hko, rfl⟩
      (conv => whnf)
      refine draw_tree_at tab_ok (by kernel_rfl) [0] (DT.row [0, 1, 2, 3, 4, 5, 6, 7, 8, 9] .nil) (by kernel_rfl) (F5.only u) (only_ext rfl) ?_
      (conv => whnf)
      refine ⟨⟨_, _, _, only_at hU5, rfl, Nat.le_refl 4, ?_⟩⟩
      (conv => whnf)
      refine ⟨⟨by omega, by omega⟩, ?_⟩
      (conv => whnf)
      refine store_step q 0 _ (evC (x0.toNat : Int) n (.slice A2 bs.length c2) (.slice B2 ks.length cc2)) rfl hQ5 rfl rfl (.inl (Nat.le_refl 0)) (os4 _ _ _ _ _ _ _ _) ?_
      have hM6 := mine_put hM5 hq hQ5 u8_event (evO (x0.toNat : Int) n (.slice A2 bs.length c2) (.slice B2 ks.length cc2))
      have hT6 := mine_put hT5 hq hQ5 int_event (evO (x0.toNat : Int) n (.slice A2 bs.length c2) (.slice B2 ks.length cc2))
      have hQ6 := Heap.put_same F5 q (evO (x0.toNat : Int) n (.slice A2 bs.length c2) (.slice B2 ks.length cc2))
      have hU6 : (F5.put q (evO (x0.toNat : Int) n (.slice A2 bs.length c2) (.slice B2 ks.length cc2))) u = F5 u := Heap.put_other _ _ hqu.symm
      refine ⟨only_ext hU6, ?_⟩
      generalize F5.put q _ = F6 at hM6 hT6 hQ6 ⊢
      (conv => whnf)
      refine res_cells tab_ok rfl rfl hQ6 rfl ?_
      have hV : Value.slice (if c = Int.toNat (IntKind.i64.wrap (IntKind.i64.wrap (5 + (s : Int)) + (mk : Int))) then some ad else (some ad).map (·.add (Int.toNat (IntKind.i64.wrap (IntKind.i64.wrap (5 + (s : Int)) + (mk : Int))) * 1))) (b.length - Int.toNat (IntKind.i64.wrap (IntKind.i64.wrap (5 + (s : Int)) + (mk : Int)))) (c - Int.toNat (IntKind.i64.wrap (IntKind.i64.wrap (5 + (s : Int)) + (mk : Int)))) = .slice (cutA c (some ad) N) (b.length - N) (c - N) := by
        rw [hN, Int.toNat_natCast]
        rfl
      obtain ⟨A', c', hs', hc', hRS⟩ := hM6.own.row
      injection hs' with e1 e2 e3
      subst e1 e3
      obtain ⟨B', cc', hs', _, hRT⟩ := hT6.own.row
      injection hs' with e1 e2 e3
      subst e1 e3
      have hy := yes hok F6 A2 c2 B2 cc2 ⟨hRS, hRT, hc'⟩ ⟨fun a h => hM6.fresh _ (by have h : A2 = some a := h; rw [h]; rfl), fun a h => hT6.fresh _ (by have h : B2 = some a := h; rw [h]; rfl)⟩ hM6.ext
      rw [← hV] at hy
      (conv => whnf)
      exact hy
end Go.Proofs.Ytkahpaipciooiad.Al

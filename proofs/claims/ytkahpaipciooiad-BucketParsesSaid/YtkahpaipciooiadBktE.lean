/- Buckets: the cursor's take and pair, over what is known of memory. -/
import Derived.Test.YtkahpaipciooiadBktD
namespace Go.Proofs.Ytkahpaipciooiad.Al
open Go Go.Al Go.Proofs Go.RowKit
set_option maxHeartbeats 8000000
set_option maxRecDepth 100000
set_option linter.unusedVariables false
set_option linter.unusedSimpArgs false
abbrev curC (V : Value) (i : Nat) (bad : Bool) : Array Value := #[V, .int .i64 (i : Int), .bool bad]
abbrev curO (V : Value) (i : Nat) (bad : Bool) : Obj := .cells (curC V i bad) 59
theorem takeBad (V : Value) (i n : Nat) (F : Heap) (q : Nat) (hd : F q = some (curO V i true)) :
    FnK Try.prog 61 #[.pointer (some ⟨q, 0, none⟩), .int .i64 (n : Int)] F (fun v F' => Keeps F F' (some q) ∧ F' q = some (curO V i true) ∧ v = .slice none 0 0) := by
  (refine fn_walk tab_ok Try.func61 rfl rfl rfl rfl ?_; (conv => whnf))
  refine draw_walk tab_ok (by kernel_rfl) [0, 1, 2, 3, 4, 5, 6, 7, 8, 9, 10, 11, 12, 13, 14, 15, 16, 17] (by kernel_rfl) ?_
  ((conv => whnf); repeat (first | (apply load_at; (conv => lhs; whnf); (with_reducible assumption); rfl; (conv => whnf)) | (apply loads_at; (conv => lhs; whnf); (with_reducible assumption); rfl; (conv => whnf)) | (refine ⟨⟨by omega, by omega⟩, ?_⟩; (conv => whnf))))
  refine store_step q 2 _ (curC V i true) rfl hd rfl rfl (.inl (Nat.le_refl 0)) (one_bool _) ?_
  ((conv => whnf); repeat (first | (apply load_at; (conv => lhs; whnf); (with_reducible assumption); rfl; (conv => whnf)) | (apply loads_at; (conv => lhs; whnf); (with_reducible assumption); rfl; (conv => whnf)) | (refine ⟨⟨by omega, by omega⟩, ?_⟩; (conv => whnf))))
  exact ⟨Keeps.put _ _ _, Heap.put_same _ _ _, rfl⟩
theorem take (b : List UInt8) (A : Option Addr) (c i n : Nat) (F : Heap) (q : Nat) (hr : RowAt F A (bytesOf b)) (hq : ∀ a, A = some a → a.block ≠ q) (hd : F q = some (curO (.slice A b.length c) i false)) (hl : b.length ≤ 1000) (hc : b.length ≤ c) (hi : i ≤ b.length) (hn : n ≤ 1000) :
    FnK Try.prog 61 #[.pointer (some ⟨q, 0, none⟩), .int .i64 (n : Int)] F (fun v F' => Keeps F F' (some q) ∧ if i + n ≤ b.length then F' q = some (curO (.slice A b.length c) (i + n) false) ∧ NewRow F F' v ((b.drop i).take n) else F' q = some (curO (.slice A b.length c) i true) ∧ v = .slice none 0 0) := by
  have hsub : IntKind.i64.wrap ((b.length : Int) - (i : Int)) = ((b.length - i : Nat) : Int) := by rw [IntKind.wrap_i64]; omega
  have hadd : IntKind.i64.wrap ((i : Int) + (n : Int)) = ((i + n : Nat) : Int) := by rw [IntKind.wrap_i64]; omega
  (refine fn_walk tab_ok Try.func61 rfl rfl rfl rfl ?_; (conv => whnf))
  refine draw_walk tab_ok (by kernel_rfl) [0, 1, 2, 3, 4, 5, 6, 7, 8, 9, 10, 11, 12, 13, 14, 15, 16, 17] (by kernel_rfl) ?_
  ((conv => whnf); repeat (first | (apply load_at; (conv => lhs; whnf); (with_reducible assumption); rfl; (conv => whnf)) | (apply loads_at; (conv => lhs; whnf); (with_reducible assumption); rfl; (conv => whnf)) | (refine ⟨⟨by omega, by omega⟩, ?_⟩; (conv => whnf))))
  refine cond_split (fun h => ?_) (fun h => ?_)
  · have h : decide ((n : Int) > IntKind.i64.wrap ((b.length : Int) - (i : Int))) = true := h
    have h := of_decide_eq_true h
    have hno : ¬ i + n ≤ b.length := by omega
    ((conv => whnf); repeat (first | (apply load_at; (conv => lhs; whnf); (with_reducible assumption); rfl; (conv => whnf)) | (apply loads_at; (conv => lhs; whnf); (with_reducible assumption); rfl; (conv => whnf)) | (refine ⟨⟨by omega, by omega⟩, ?_⟩; (conv => whnf))))
    refine store_step q 2 _ (curC (.slice A b.length c) i true) rfl hd rfl rfl (.inl (Nat.le_refl 0)) (one_bool _) ?_
    ((conv => whnf); repeat (first | (apply load_at; (conv => lhs; whnf); (with_reducible assumption); rfl; (conv => whnf)) | (apply loads_at; (conv => lhs; whnf); (with_reducible assumption); rfl; (conv => whnf)) | (refine ⟨⟨by omega, by omega⟩, ?_⟩; (conv => whnf))))
    rw [if_neg hno]
    exact ⟨Keeps.put _ _ _, Heap.put_same _ _ _, rfl⟩
  have h : decide ((n : Int) > IntKind.i64.wrap ((b.length : Int) - (i : Int))) = false := h
  have h := of_decide_eq_false h
  have hyes : i + n ≤ b.length := by omega
  clear hsub h
  have hF2 := Heap.put_same F q (curO (.slice A b.length c) (i + n) false)
  have hk2 := Keeps.put F q (curO (.slice A b.length c) (i + n) false)
  have hnn : ∀ k : Nat, (F.put q (curO (.slice A b.length c) (i + n) false)) k = none → F k = none := fun k hk => by
    by_cases e : k = q
    · subst e; rw [hF2] at hk; cases hk
    · rw [Heap.put_other _ _ e] at hk; exact hk
  have hlen : ((b.drop i).take n).length = n := by rw [List.length_take, List.length_drop]; omega
  have hrow := row_cut3 i n (Int.toNat (IntKind.i64.wrap ((i : Int) + (n : Int)))) (Int.toNat (i : Int)) (rowAt_keepq hr hk2 hq) (Int.toNat_natCast i) (by rw [hadd, Int.toNat_natCast]; exact Nat.le_refl _) hyes
  have hc0 := clone ((b.drop i).take n) _ (Int.toNat (IntKind.i64.wrap ((i : Int) + (n : Int))) - Int.toNat (i : Int)) _ hrow (by omega)
  have hVs : ((b.drop i).take n).length = Int.toNat (IntKind.i64.wrap ((i : Int) + (n : Int))) - Int.toNat (i : Int) := by rw [hlen, hadd]; omega
  (conv => whnf)
  obtain ⟨A', hA⟩ : ∃ A', (if Int.toNat (IntKind.i64.wrap ((i : Int) + (n : Int))) = Int.toNat (i : Int) then A else A.map (·.add (Int.toNat (i : Int) * 1))) = A' := ⟨_, rfl⟩
  obtain ⟨c', hc'⟩ : ∃ c', Int.toNat (IntKind.i64.wrap ((i : Int) + (n : Int))) - Int.toNat (i : Int) = c' := ⟨_, rfl⟩
  rw [hA, hc'] at hc0
  refine draw_cut (fun env' F' => F' = F ∧ env' 0 = .pointer (some ⟨q, 0, none⟩) ∧ env' 1 = .int .i64 (n : Int) ∧ env' 5 = .slice A' ((b.drop i).take n).length c') (fun K hK => ?_) ?_
  · refine draw_walk tab_ok (by kernel_rfl) [0, 1, 2, 3, 4, 5, 6, 7, 8, 9, 10, 11, 12, 13, 14, 15, 16, 17, 18, 19, 20, 21] (by kernel_rfl) ?_
    ((conv => whnf); repeat (first | (apply load_at; (conv => lhs; whnf); (with_reducible assumption); rfl; (conv => whnf)) | (apply loads_at; (conv => lhs; whnf); (with_reducible assumption); rfl; (conv => whnf)) | (refine ⟨⟨by omega, by omega⟩, ?_⟩; (conv => whnf))))
    exact hK _ _ ⟨rfl, rfl, rfl, slice_eq hA hVs.symm hc'⟩
  rintro env' F' ⟨rfl, q0, q1, q5⟩
  refine short [0, 1, 5] [.pointer (some ⟨q, 0, none⟩), .int .i64 (n : Int), .slice A' ((b.drop i).take n).length c'] (by simp only [List.map_cons, List.map_nil, q0, q1, q5]) fun ρ => ?_
  clear q0 q1 q5
  ((conv => whnf); repeat (first | (apply load_at; (conv => lhs; whnf); (with_reducible assumption); rfl; (conv => whnf)) | (apply loads_at; (conv => lhs; whnf); (with_reducible assumption); rfl; (conv => whnf)) | (refine ⟨⟨by omega, by omega⟩, ?_⟩; (conv => whnf))))
  refine store_step q 1 _ (curC (.slice A b.length c) (i + n) false) rfl hd (congrArg (fun z => #[Value.slice A b.length c, .int .i64 z, .bool false]) hadd) rfl (.inl (Nat.le_refl 0)) (one_int _ _) ?_
  generalize F'.put q _ = F2 at hF2 hk2 hnn hc0 ⊢
  (conv => whnf)
  refine call_of (hc0) ?_
  intro v F3 hM
  (conv => whnf)
  rw [if_pos hyes]
  obtain ⟨A3, c3, h1, h2, h3, h4⟩ := hM.newRow
  exact ⟨hk2.trans (hM.ext.keeps _), hM.ext _ _ hF2, A3, c3, h1, h2, h3, fun a ha => hnn _ (h4 a ha)⟩
/-- A pair's rows are new. -/
def PrNew (F : Heap) (r : PR) : Prop := (∀ a, r.A = some a → F a.block = none) ∧ (∀ a, r.B = some a → F a.block = none)
def pairOk (b : List UInt8) (i : Nat) : Prop := i + 2 ≤ b.length ∧ i + 2 + (b.getD i 0).toNat + (b.getD (i + 1) 0).toNat ≤ b.length
instance (b : List UInt8) (i : Nat) : Decidable (pairOk b i) := by unfold pairOk; infer_instance
def pairN (b : List UInt8) (i : Nat) : Nat := i + 2 + (b.getD i 0).toNat + (b.getD (i + 1) 0).toNat
def pairP (b : List UInt8) (i : Nat) : PD := ((b.drop (i + 2)).take (b.getD i 0).toNat, (b.drop (i + 2 + (b.getD i 0).toNat)).take (b.getD (i + 1) 0).toNat)
theorem take2_at {b : List UInt8} {i : Nat} (h : i + 2 ≤ b.length) : (bytesOf ((b.drop i).take 2)) = [.int .u8 (b.getD i 0).toNat, .int .u8 (b.getD (i + 1) 0).toNat] := by
  rw [List.drop_eq_getElem_cons (by omega : i < b.length), List.drop_eq_getElem_cons (by omega : i + 1 < b.length)]
  simp only [List.take_succ_cons, List.take_zero, bytesOf, List.map_cons, List.map_nil]
  simp [List.getD, List.getElem?_eq_getElem (by omega : i < b.length), List.getElem?_eq_getElem (by omega : i + 1 < b.length)]
theorem wrap_u8 (x : UInt8) : IntKind.i64.wrap (x.toNat : Int) = ((x.toNat : Nat) : Int) := by
  have := x.toNat_lt
  exact wrap_eq (by omega) (by omega)
theorem pair (b : List UInt8) (A : Option Addr) (c i : Nat) (F : Heap) (q : Nat) (hr : RowAt F A (bytesOf b)) (hq : ∀ a, A = some a → a.block ≠ q) (hd : F q = some (curO (.slice A b.length c) i false)) (hl : b.length ≤ 1000) (hc : b.length ≤ c) (hi : i ≤ b.length) :
    FnK Try.prog 35 #[.pointer (some ⟨q, 0, none⟩)] F (fun v F' => Keeps F F' (some q) ∧ ∃ r, v = .agg (prA r) ∧ ((pairOk b i ∧ pd r = pairP b i ∧ PrOk F' r ∧ PrNew F r ∧ F' q = some (curO (.slice A b.length c) (pairN b i) false)) ∨ (¬ pairOk b i ∧ ∃ i', F' q = some (curO (.slice A b.length c) i' true)))) := by
  have bad : ∀ (F' : Heap) (v : Value) (r : PR) (i' : Nat), ¬ pairOk b i → Keeps F F' (some q) → v = .agg (prA r) → F' q = some (curO (.slice A b.length c) i' true) → Keeps F F' (some q) ∧ ∃ r, v = .agg (prA r) ∧ ((pairOk b i ∧ pd r = pairP b i ∧ PrOk F' r ∧ PrNew F r ∧ F' q = some (curO (.slice A b.length c) (pairN b i) false)) ∨ (¬ pairOk b i ∧ ∃ i', F' q = some (curO (.slice A b.length c) i' true))) := fun F' v r i' h1 h2 h3 h4 => ⟨h2, r, h3, .inr ⟨h1, i', h4⟩⟩
  have t1 := fun G hg hd' => take b A c i 2 G q hg hq hd' hl hc hi (by decide)
  have hx := (b.getD i 0).toNat_lt
  have hy := (b.getD (i + 1) 0).toNat_lt
  have hok : pairOk b i ↔ i + 2 ≤ b.length ∧ i + 2 + (b.getD i 0).toNat + (b.getD (i + 1) 0).toNat ≤ b.length := Iff.rfl
  have hpp : pairP b i = ((b.drop (i + 2)).take (b.getD i 0).toNat, (b.drop (i + 2 + (b.getD i 0).toNat)).take (b.getD (i + 1) 0).toNat) := rfl
  have hpn : pairN b i = i + 2 + (b.getD i 0).toNat + (b.getD (i + 1) 0).toNat := rfl
  have h22 : i + 2 ≤ b.length → (bytesOf ((b.drop i).take 2)) = [.int .u8 (b.getD i 0).toNat, .int .u8 (b.getD (i + 1) 0).toNat] := take2_at
  have w1 := wrap_u8 (b.getD i 0)
  have w2 := wrap_u8 (b.getD (i + 1) 0)
  generalize (b.getD i 0).toNat = x at hx hok hpp hpn h22 w1
  generalize (b.getD (i + 1) 0).toNat = y at hy hok hpp hpn h22 w2
  generalize pairOk b i = ok at hok bad ⊢
  generalize pairP b i = pp at hpp bad ⊢
  generalize pairN b i = pn at hpn bad ⊢
  (refine fn_walk tab_ok Try.func35 rfl rfl rfl rfl ?_; (conv => whnf))
  refine new_step (zeroP) rfl fun p h0_p => ?_
  have hE_p := Ext.new h0_p (zeroP)
  have hB_p := Heap.put_same F p (zeroP)
  generalize F.put p _ = F1 at hE_p hB_p ⊢
  have hd1 := hE_p _ _ hd
  have hpq : p ≠ q := fun e => by rw [e, hd] at h0_p; cases h0_p
  ((conv => whnf); repeat (first | (apply load_at; (conv => lhs; whnf); (with_reducible assumption); rfl; (conv => whnf)) | (apply loads_at; (conv => lhs; whnf); (with_reducible assumption); rfl; (conv => whnf)) | (refine ⟨⟨by omega, by omega⟩, ?_⟩; (conv => whnf))))
  refine call_of (t1 F1 (hr.mono hE_p) hd1) ?_
  rintro v F2 ⟨hk2, hv⟩
  have hP2 := hk2 _ _ hB_p (fun e => hpq (Option.some.inj e).symm)
  have hK2 : Keeps F F2 (some q) := (hE_p.keeps _).trans hk2
  by_cases h2 : i + 2 ≤ b.length
  case neg =>
    rw [if_neg h2] at hv
    obtain ⟨hd2, rfl⟩ := hv
    ((conv => whnf); repeat (first | (apply load_at; (conv => lhs; whnf); (with_reducible assumption); rfl; (conv => whnf)) | (apply loads_at; (conv => lhs; whnf); (with_reducible assumption); rfl; (conv => whnf)) | (refine ⟨⟨by omega, by omega⟩, ?_⟩; (conv => whnf))))
    refine store_step p 0 _ (prC (.slice none 0 0) (.slice none 0 0)) rfl hP2 rfl rfl (.inl (Nat.le_refl 0)) ozP ?_
    have hd3 : (F2.put p zeroP) q = _ := (Heap.put_other _ _ hpq.symm).trans hd2
    have hk3 : Keeps F (F2.put p zeroP) (some q) := fun z o h h' => by
      rw [Heap.put_other _ _ (fun e => by rw [e, h0_p] at h; cases h)]
      exact hK2 z o h h'
    ((conv => whnf); repeat (first | (apply load_at; (conv => lhs; whnf); (with_reducible assumption); rfl; (conv => whnf)) | (apply loads_at; (conv => lhs; whnf); (with_reducible assumption); rfl; (conv => whnf)) | (refine ⟨⟨by omega, by omega⟩, ?_⟩; (conv => whnf))))
    refine res_cells tab_ok rfl rfl (Heap.put_same _ _ _) rfl ?_
    (conv => whnf)
    exact bad _ _ ⟨[], none, 0, [], none, 0⟩ _ (fun e => h2 (hok.1 e).1) hk3 rfl hd3
  rw [if_pos h2] at hv
  obtain ⟨hd2, A2, c2, rfl, hc2, hR2, hN2⟩ := hv
  rw [h22 h2] at hR2
  have hlen2 : ((b.drop i).take 2).length = 2 := by rw [List.length_take, List.length_drop]; omega
  rw [hlen2] at hc2 ⊢
  obtain ⟨a2, rfl⟩ := hR2.some (by simp)
  have hA2 : a2.block ≠ q := fun e => by have := hN2 a2 rfl; rw [e, hd1] at this; cases this
  have ht2 := take b A c (i + 2) x F2 q (rowAt_keepq (hr.mono hE_p) hk2 hq) hq hd2 hl hc h2 (by omega)
  have hcell0 : F2.cell? (a2.add 0) = some (.int .u8 (x : Int)) := hR2.cell rfl
  rw [← w1] at ht2
  ((conv => whnf); repeat (first | (apply load_at; (conv => lhs; whnf); (with_reducible assumption); rfl; (conv => whnf)) | (apply loads_at; (conv => lhs; whnf); (with_reducible assumption); rfl; (conv => whnf)) | (refine ⟨⟨by omega, by omega⟩, ?_⟩; (conv => whnf))))
  refine load_step hcell0 ?_
  ((conv => whnf); repeat (first | (apply load_at; (conv => lhs; whnf); (with_reducible assumption); rfl; (conv => whnf)) | (apply loads_at; (conv => lhs; whnf); (with_reducible assumption); rfl; (conv => whnf)) | (refine ⟨⟨by omega, by omega⟩, ?_⟩; (conv => whnf))))
  refine call_of ht2 ?_
  rintro v F3 ⟨hk3, hv⟩
  have hP3 := hk3 _ _ hP2 (fun e => hpq (Option.some.inj e).symm)
  have hK3 := hK2.trans hk3
  have hR3 := rowAt_keepq hR2 hk3 (fun a e => by cases e; exact hA2)
  have hcell1 : F3.cell? (a2.add 1) = some (.int .u8 (y : Int)) := hR3.cell rfl
  by_cases h3 : i + 2 + x ≤ b.length
  case neg =>
    rw [if_neg h3] at hv
    obtain ⟨hd3, rfl⟩ := hv
    have ht3 := takeBad (.slice A b.length c) (i + 2) y F3 q hd3
    rw [← w2] at ht3
    ((conv => whnf); repeat (first | (apply load_at; (conv => lhs; whnf); (with_reducible assumption); rfl; (conv => whnf)) | (apply loads_at; (conv => lhs; whnf); (with_reducible assumption); rfl; (conv => whnf)) | (refine ⟨⟨by omega, by omega⟩, ?_⟩; (conv => whnf))))
    refine load_step hcell1 ?_
    ((conv => whnf); repeat (first | (apply load_at; (conv => lhs; whnf); (with_reducible assumption); rfl; (conv => whnf)) | (apply loads_at; (conv => lhs; whnf); (with_reducible assumption); rfl; (conv => whnf)) | (refine ⟨⟨by omega, by omega⟩, ?_⟩; (conv => whnf))))
    refine call_of ht3 ?_
    rintro v F4 ⟨hk4, hd4, rfl⟩
    have hP4 := hk4 _ _ hP3 (fun e => hpq (Option.some.inj e).symm)
    have hK4 := hK3.trans hk4
    ((conv => whnf); repeat (first | (apply load_at; (conv => lhs; whnf); (with_reducible assumption); rfl; (conv => whnf)) | (apply loads_at; (conv => lhs; whnf); (with_reducible assumption); rfl; (conv => whnf)) | (refine ⟨⟨by omega, by omega⟩, ?_⟩; (conv => whnf))))
    refine store_step p 0 _ (prC (.slice none 0 0) (.slice none 0 0)) rfl hP4 rfl rfl (.inl (Nat.le_refl 0)) ozP ?_
    have hd5 : (F4.put p zeroP) q = _ := (Heap.put_other _ _ hpq.symm).trans hd4
    have hk5 : Keeps F (F4.put p zeroP) (some q) := fun z o h h' => by
      rw [Heap.put_other _ _ (fun e => by rw [e, h0_p] at h; cases h)]
      exact hK4 z o h h'
    ((conv => whnf); repeat (first | (apply load_at; (conv => lhs; whnf); (with_reducible assumption); rfl; (conv => whnf)) | (apply loads_at; (conv => lhs; whnf); (with_reducible assumption); rfl; (conv => whnf)) | (refine ⟨⟨by omega, by omega⟩, ?_⟩; (conv => whnf))))
    refine res_cells tab_ok rfl rfl (Heap.put_same _ _ _) rfl ?_
    (conv => whnf)
    exact bad _ _ ⟨[], none, 0, [], none, 0⟩ _ (fun e => by have := (hok.1 e).2; omega) hk5 rfl hd5
  rw [if_pos h3] at hv
  obtain ⟨hd3, A3, c3, rfl, hc3, hR3, hN3⟩ := hv
  have ht3 := take b A c (i + 2 + x) y F3 q (rowAt_keepq (rowAt_keepq (hr.mono hE_p) hk2 hq) hk3 hq) hq hd3 hl hc h3 (by omega)
  rw [← w2] at ht3
  ((conv => whnf); repeat (first | (apply load_at; (conv => lhs; whnf); (with_reducible assumption); rfl; (conv => whnf)) | (apply loads_at; (conv => lhs; whnf); (with_reducible assumption); rfl; (conv => whnf)) | (refine ⟨⟨by omega, by omega⟩, ?_⟩; (conv => whnf))))
  refine load_step hcell1 ?_
  ((conv => whnf); repeat (first | (apply load_at; (conv => lhs; whnf); (with_reducible assumption); rfl; (conv => whnf)) | (apply loads_at; (conv => lhs; whnf); (with_reducible assumption); rfl; (conv => whnf)) | (refine ⟨⟨by omega, by omega⟩, ?_⟩; (conv => whnf))))
  refine call_of ht3 ?_
  rintro v F4 ⟨hk4, hv⟩
  have hP4 := hk4 _ _ hP3 (fun e => hpq (Option.some.inj e).symm)
  have hK4 := hK3.trans hk4
  have hA3 : ∀ a, A3 = some a → a.block ≠ q := fun a ha e => by have := hN3 a ha; rw [e, hd2] at this; cases this
  have hR4 := rowAt_keepq hR3 hk4 hA3
  by_cases h4 : i + 2 + x + y ≤ b.length
  case neg =>
    rw [if_neg h4] at hv
    obtain ⟨hd4, rfl⟩ := hv
    ((conv => whnf); repeat (first | (apply load_at; (conv => lhs; whnf); (with_reducible assumption); rfl; (conv => whnf)) | (apply loads_at; (conv => lhs; whnf); (with_reducible assumption); rfl; (conv => whnf)) | (refine ⟨⟨by omega, by omega⟩, ?_⟩; (conv => whnf))))
    refine store_step p 0 _ (prC (.slice A3 ((b.drop (i + 2)).take x).length c3) (.slice none 0 0)) rfl hP4 rfl rfl (.inl (Nat.le_refl 0)) (os2 _ _ _ _ _ _) ?_
    generalize hO : prO (.slice A3 ((b.drop (i + 2)).take x).length c3) (.slice none 0 0) = O
    have hO' : O = .cells (prC (.slice A3 ((b.drop (i + 2)).take x).length c3) (.slice none 0 0)) 54 := hO.symm
    have hd5 : (F4.put p O) q = _ := (Heap.put_other _ _ hpq.symm).trans hd4
    have hk5 : Keeps F (F4.put p O) (some q) := fun z o h h' => by
      rw [Heap.put_other _ _ (fun e => by rw [e, h0_p] at h; cases h)]
      exact hK4 z o h h'
    subst hO'
    ((conv => whnf); repeat (first | (apply load_at; (conv => lhs; whnf); (with_reducible assumption); rfl; (conv => whnf)) | (apply loads_at; (conv => lhs; whnf); (with_reducible assumption); rfl; (conv => whnf)) | (refine ⟨⟨by omega, by omega⟩, ?_⟩; (conv => whnf))))
    refine res_cells tab_ok rfl rfl (Heap.put_same _ _ _) rfl ?_
    (conv => whnf)
    exact bad _ _ ⟨(b.drop (i + 2)).take x, A3, c3, [], none, 0⟩ _ (fun e => by have := (hok.1 e).2; omega) hk5 rfl hd5
  rw [if_pos h4] at hv
  obtain ⟨hd4, A4, c4, rfl, hc4, hR5, hN4⟩ := hv
  ((conv => whnf); repeat (first | (apply load_at; (conv => lhs; whnf); (with_reducible assumption); rfl; (conv => whnf)) | (apply loads_at; (conv => lhs; whnf); (with_reducible assumption); rfl; (conv => whnf)) | (refine ⟨⟨by omega, by omega⟩, ?_⟩; (conv => whnf))))
  refine store_step p 0 _ (prC (.slice A3 ((b.drop (i + 2)).take x).length c3) (.slice A4 ((b.drop (i + 2 + x)).take y).length c4)) rfl hP4 rfl rfl (.inl (Nat.le_refl 0)) (os2 _ _ _ _ _ _) ?_
  obtain ⟨O, hO⟩ : ∃ O, O = prO (.slice A3 ((b.drop (i + 2)).take x).length c3) (.slice A4 ((b.drop (i + 2 + x)).take y).length c4) := ⟨_, rfl⟩
  have hd5 : (F4.put p O) q = _ := (Heap.put_other _ _ hpq.symm).trans hd4
  have hk5 : Keeps F (F4.put p O) (some q) := fun z o h h' => by
    rw [Heap.put_other _ _ (fun e => by rw [e, h0_p] at h; cases h)]
    exact hK4 z o h h'
  have hkp : Keeps F4 (F4.put p O) (some p) := Keeps.put _ _ _
  have hn3 : ∀ a, A3 = some a → F a.block = none ∧ a.block ≠ p := fun a ha => by
    have h := hN3 a ha
    refine ⟨?_, fun e => by rw [e, hP2] at h; cases h⟩
    cases e : F a.block with
    | none => rfl
    | some o => rw [hK2 _ _ e (fun e' => hA3 a ha (Option.some.inj e').symm)] at h; cases h
  have hn4 : ∀ a, A4 = some a → F a.block = none ∧ a.block ≠ p := fun a ha => by
    have h := hN4 a ha
    have hne : a.block ≠ q := fun e => by rw [e, hd3] at h; cases h
    refine ⟨?_, fun e => by rw [e, hP3] at h; cases h⟩
    cases e : F a.block with
    | none => rfl
    | some o => rw [hK3 _ _ e (fun e' => hne (Option.some.inj e').symm)] at h; cases h
  have hokR : PrOk (F4.put p O) ⟨(b.drop (i + 2)).take x, A3, c3, (b.drop (i + 2 + x)).take y, A4, c4⟩ := ⟨rowAt_keepq hR4 hkp (fun a ha => (hn3 a ha).2), rowAt_keepq hR5 hkp (fun a ha => (hn4 a ha).2), hc3, hc4⟩
  subst hO
  ((conv => whnf); repeat (first | (apply load_at; (conv => lhs; whnf); (with_reducible assumption); rfl; (conv => whnf)) | (apply loads_at; (conv => lhs; whnf); (with_reducible assumption); rfl; (conv => whnf)) | (refine ⟨⟨by omega, by omega⟩, ?_⟩; (conv => whnf))))
  refine res_cells tab_ok rfl rfl (Heap.put_same _ _ _) rfl ?_
  (conv => whnf)
  exact ⟨hk5, ⟨(b.drop (i + 2)).take x, A3, c3, (b.drop (i + 2 + x)).take y, A4, c4⟩, rfl, .inl ⟨hok.2 ⟨h2, h4⟩, hpp.symm, hokR, ⟨fun a ha => (hn3 a ha).1, fun a ha => (hn4 a ha).1⟩, by rw [hpn]; exact hd5⟩⟩
end Go.Proofs.Ytkahpaipciooiad.Al

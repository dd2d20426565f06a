/- The contract of the reference's Decode, over what is known of memory. -/
import Derived.Test.YtkahpaipciooiacCmdDec
namespace Go.Proofs.Ytkahpaipciooiac.Al
open Go Go.Al Go.Proofs Go.RowKit
set_option maxHeartbeats 8000000
set_option maxRecDepth 100000
set_option linter.unusedVariables false
set_option linter.unusedSimpArgs false
def rat (b : List UInt8) : Nat := 28 + (b.getD 27 0).toNat
def rmany (b : List UInt8) : Nat := (b.getD (rat b) 0).toNat
def lnR (b : List UInt8) (k : Nat) : LD := ⟨getN b k 2, getN b (k + 2) 2, getN b (k + 4) 2, getN b (k + 6) 8⟩
def linesR (b : List UInt8) (at_ n : Nat) : List LD := (List.range n).map fun i => lnR b (at_ + 1 + 14 * i)
def szR (b : List UInt8) : Prop := 29 ≤ b.length ∧ rat b < b.length ∧ b.length = rat b + 1 + 14 * rmany b
/-- What the reference reads. -/
def rcmdOf (b : List UInt8) : CD := ⟨getN b 0 1, getN b 1 2, getN b 3 2, getN b 5 2, getN b 7 2, getN b 9 2, getN b 11 2, getN b 13 4, getN b 17 1, getN b 18 8, ((b.getD 26 0).toNat : Int) == 1, (b.drop 28).take (b.getD 27 0).toNat, linesR b (rat b) (rmany b)⟩
instance (b : List UInt8) : Decidable (szR b) := by unfold szR; infer_instance
def okR (b : List UInt8) : Bool := decide (szR b) && (mayB (rcmdOf b) && (encB (rcmdOf b) == b))
theorem linesR_take (b : List UInt8) (at_ n j : Nat) (h : j < n) : (linesR b at_ n).take (j + 1) = (linesR b at_ n).take j ++ [lnR b (at_ + 1 + 14 * j)] := by
  have : (linesR b at_ n)[j]? = some (lnR b (at_ + 1 + 14 * j)) := by simp [linesR, h]
  rw [List.take_add_one, this]
  rfl
theorem linesR_len (b : List UInt8) (at_ n : Nat) : (linesR b at_ n).length = n := by simp [linesR]
theorem byte_at {b : List UInt8} {j : Nat} (h : j < b.length) : (bytesOf b)[j]? = some (.int .u8 (b.getD j 0).toNat) := by
  unfold bytesOf
  rw [List.getElem?_map, List.getD_eq_getElem?_getD, List.getElem?_eq_getElem h]
  rfl
theorem less_ext {F G : Heap} {p : Nat} (h : ∀ c, c ≠ p → G c = F c) : Ext (less F p) G := fun c o hc => by
  unfold less at hc
  split at hc
  · cases hc
  · next hne => rw [h c hne]; exact hc
theorem less_cell {F : Heap} {a : Addr} {v : Value} {p : Nat} (h : F.cell? a = some v) (hp : ∀ c e fz, F p = some (.cells c e fz) → a.block ≠ p) : (less F p).cell? a = some v := by
  obtain ⟨c, e, fz, hb, hs, hv⟩ := cell_block h
  have hne : a.block ≠ p := fun e' => hp c e fz (by rw [← e']; exact hb) e'
  unfold Heap.cell?
  rw [less_at hne, hb]
  simp only [hs, Option.isSome_none, Bool.false_eq_true, if_false]
  exact hv
theorem rnum (m : Nat) (hm : Siz m) (b : List UInt8) (A : Option Addr) (c i : Nat) (F : Heap) (hr : RowAt F A (bytesOf b)) (hl : b.length ≤ 1000000) (hc : b.length ≤ c) (hi0 : i ≤ 100000000) :
    FnK Try.prog 44 #[.slice A b.length c, .int .i64 (i : Int), .int .i64 (m : Int)] F (fun v F' => v = .int .i64 (getN b i m) ∧ F' = F) := by
  have hg := rgetG m hm b A c i F hr hl hc hi0
  generalize getN b i m = w at hg
  (refine fn_walk tab_ok Try.func44 rfl rfl rfl rfl ?_; (conv => whnf))
  refine call_of hg ?_
  rintro v F1 ⟨rfl, rfl⟩
  (conv => whnf)
  exact ⟨rfl, rfl⟩
theorem rdecode (b : List UInt8) (A : Option Addr) (c : Nat) (F : Heap) (hr : RowAt F A (bytesOf b)) (hl : b.length ≤ 50000) (hc : b.length ≤ c) :
    FnK Try.prog 21 #[.slice A b.length c] F (fun v F' => Dec (if okR b then rcmdOf b else zeroC) (if okR b then 0 else 14) v F' ∧ Ext F F') := by
  have hdef : rcmdOf b = ⟨getN b 0 1, getN b 1 2, getN b 3 2, getN b 5 2, getN b 7 2, getN b 9 2, getN b 11 2, getN b 13 4, getN b 17 1, getN b 18 8, ((b.getD 26 0).toNat : Int) == 1, (b.drop 28).take (b.getD 27 0).toNat, linesR b (rat b) (rmany b)⟩ := rfl
  have hok : okR b = (decide (szR b) && (mayB (rcmdOf b) && (encB (rcmdOf b) == b))) := rfl
  have hg := fun m hm i G hg hi => rnum m hm b A c i G hg (by omega) hc hi
  have no : ∀ F', okR b = false → Ext F F' → Dec (if okR b then rcmdOf b else zeroC) (if okR b then 0 else 14) (.tuple #[.agg (cmdC 0 0 0 0 0 0 0 0 0 0 false .empty (.slice none 0 0)), .int .i64 14]) F' ∧ Ext F F' := by
    intro F' h hX
    rw [h]
    exact ⟨⟨none, 0, rfl, RowAt.nil _ _⟩, hX⟩
  have bad : ¬ szR b → okR b = false := fun h => by rw [hok, decide_eq_false h, Bool.false_and]
  have oz : ∀ v ∈ [Value.int .i64 0, .int .i64 0, .int .i64 0, .int .i64 0, .int .i64 0, .int .i64 0, .int .i64 0, .int .i64 0, .int .i64 0, .int .i64 0, .bool false, .string .empty, .slice none 0 0], v.oneCell' = true := by simp [Value.oneCell']
  (refine fn_walk tab_ok Try.func21 rfl rfl rfl rfl ?_; (conv => whnf))
  refine new_step (cmdO 0 0 0 0 0 0 0 0 0 0 false .empty (.slice none 0 0)) rfl fun q hq => ?_
  have hE1 := Ext.new hq (cmdO 0 0 0 0 0 0 0 0 0 0 false .empty (.slice none 0 0))
  have hQ := Heap.put_same F q (cmdO 0 0 0 0 0 0 0 0 0 0 false .empty (.slice none 0 0))
  generalize F.put q _ = F1 at hE1 hQ ⊢
  have hr1 := hr.mono hE1
  (conv => whnf)
  refine cond_split (fun h => ?_) (fun h => ?_)
  · have h : decide ((b.length : Int) < 29) = true := h
    have h := of_decide_eq_true h
    (conv => whnf)
    refine store_step q 0 _ (cmdC 0 0 0 0 0 0 0 0 0 0 false .empty (.slice none 0 0)) rfl hQ rfl rfl (.inl (Nat.le_refl 0)) oz ?_
    (conv => whnf)
    refine res_cells tab_ok rfl rfl (Heap.put_same _ _ _) rfl ?_
    (conv => whnf)
    exact no _ (bad (fun hs => by have := hs.1; omega)) (hE1.put hq _)
  have h29 : 29 ≤ b.length := by
    have h : decide ((b.length : Int) < 29) = false := h
    have := of_decide_eq_false h
    omega
  obtain ⟨ad, rfl⟩ := hr.some (by rw [bytes_len]; omega)
  have g0 := fun G hx => hg 1 (.inl rfl) 0 G hx (by omega)
  have g1 := fun G hx => hg 2 (.inr (.inl rfl)) 1 G hx (by omega)
  have g2 := fun G hx => hg 2 (.inr (.inl rfl)) 3 G hx (by omega)
  have g3 := fun G hx => hg 2 (.inr (.inl rfl)) 5 G hx (by omega)
  have g4 := fun G hx => hg 2 (.inr (.inl rfl)) 7 G hx (by omega)
  have g5 := fun G hx => hg 2 (.inr (.inl rfl)) 9 G hx (by omega)
  have g6 := fun G hx => hg 2 (.inr (.inl rfl)) 11 G hx (by omega)
  have g7 := fun G hx => hg 4 (.inr (.inr (.inl rfl))) 13 G hx (by omega)
  have g8 := fun G hx => hg 1 (.inl rfl) 17 G hx (by omega)
  have g9 := fun G hx => hg 8 (.inr (.inr (.inr rfl))) 18 G hx (by omega)
  generalize getN b 0 1 = v0 at g0 hdef
  generalize getN b 1 2 = v1 at g1 hdef
  generalize getN b 3 2 = v2 at g2 hdef
  generalize getN b 5 2 = v3 at g3 hdef
  generalize getN b 7 2 = v4 at g4 hdef
  generalize getN b 9 2 = v5 at g5 hdef
  generalize getN b 11 2 = v6 at g6 hdef
  generalize getN b 13 4 = v7 at g7 hdef
  generalize getN b 17 1 = v8 at g8 hdef
  generalize getN b 18 8 = v9 at g9 hdef
  have hb26 := byte_at (show 26 < b.length by omega)
  have hb27 := byte_at (show 27 < b.length by omega)
  have hrat : rat b = 28 + (b.getD 27 0).toNat := rfl
  have h27 := (b.getD 27 0).toNat_lt
  generalize b.getD 26 0 = x26 at hb26 hdef
  generalize b.getD 27 0 = x27 at hb27 hdef hrat h27
  (conv => whnf)
  refine call_of (g0 F1 hr1) ?_
  rintro v F1 ⟨rfl, rfl⟩
  (conv => whnf)
  refine call_of (g1 F1 hr1) ?_
  rintro v F1 ⟨rfl, rfl⟩
  (conv => whnf)
  refine call_of (g2 F1 hr1) ?_
  rintro v F1 ⟨rfl, rfl⟩
  (conv => whnf)
  refine call_of (g3 F1 hr1) ?_
  rintro v F1 ⟨rfl, rfl⟩
  (conv => whnf)
  refine call_of (g4 F1 hr1) ?_
  rintro v F1 ⟨rfl, rfl⟩
  (conv => whnf)
  refine call_of (g5 F1 hr1) ?_
  rintro v F1 ⟨rfl, rfl⟩
  (conv => whnf)
  refine call_of (g6 F1 hr1) ?_
  rintro v F1 ⟨rfl, rfl⟩
  (conv => whnf)
  refine new_step (cmdO 0 0 0 0 0 0 0 0 0 0 false .empty (.slice none 0 0)) rfl fun p hp => ?_
  have hqp : q ≠ p := fun e => by rw [← e, hQ] at hp; cases hp
  have hX : ∀ o, Ext F1 ((F1.put p (cmdO 0 0 0 0 0 0 0 0 0 0 false .empty (.slice none 0 0))).put p o) := fun o => ext_put_put hp
  have hP := Heap.put_same F1 p (cmdO 0 0 0 0 0 0 0 0 0 0 false .empty (.slice none 0 0))
  generalize F1.put p (cmdO 0 0 0 0 0 0 0 0 0 0 false .empty (.slice none 0 0)) = F2 at hX hP ⊢
  have oi : ∀ z : Int, ∀ v ∈ [Value.int .i64 z], v.oneCell' = true := by simp [Value.oneCell']
  have oc : ∀ v ∈ [Value.int .i64 v0, .int .i64 v1, .int .i64 v2, .int .i64 v3, .int .i64 v4, .int .i64 v5, .int .i64 v6, .int .i64 0, .int .i64 0, .int .i64 0, .bool false, .string .empty, .slice none 0 0], v.oneCell' = true := by simp [Value.oneCell']
  (conv => whnf)
  refine store_step p 0 _ #[.int .i64 v0, .int .i64 v1, .int .i64 v2, .int .i64 v3, .int .i64 v4, .int .i64 v5, .int .i64 v6, .int .i64 0, .int .i64 0, .int .i64 0, .bool false, .string .empty, .slice none 0 0] rfl hP rfl rfl (.inl (Nat.le_refl 0)) oc ?_
  have hE2 := hX (cmdO v0 v1 v2 v3 v4 v5 v6 0 0 0 false .empty (.slice none 0 0))
  replace hP := Heap.put_same F2 p (cmdO v0 v1 v2 v3 v4 v5 v6 0 0 0 false .empty (.slice none 0 0))
  generalize F2.put p (cmdO v0 v1 v2 v3 v4 v5 v6 0 0 0 false .empty (.slice none 0 0)) = F3 at hE2 hP ⊢
  clear hX
  have hr3 := hr1.mono hE2
  have hnp : ∀ j : Nat, j < b.length → (ad.add j).block ≠ p := fun j hj e => by
    obtain ⟨cc, ee, ff, hb, _⟩ := cell_block (hr1.cell (byte_at hj))
    rw [e, hp] at hb
    cases hb
  refine short [0, 2, 4] [.slice (some ad) b.length c, .pointer (some ⟨q, 0, none⟩), .pointer (some ⟨p, 0, none⟩)] rfl fun ρ => ?_
  (conv => whnf)
  refine draw_tree_at tab_ok (by kernel_rfl) [8] (DT.row [0, 2, 4, 6, 7, 8, 9, 1, 10, 3, 5, 11, 12, 13, 14, 15, 16, 17] .nil) (by kernel_rfl) (less F3 p) (less_ext fun _ _ => rfl) ?_
  (conv => whnf)
  refine ⟨⟨by omega, by omega⟩, ?_⟩
  (conv => whnf)
  refine load_step (v := .int .u8 (x26.toNat : Int)) (less_cell (hr3.cell hb26) fun _ _ _ _ => hnp 26 (by omega)) ?_
  (conv => whnf)
  refine call_of (g7 F3 hr3) ?_
  rintro v F3 ⟨rfl, rfl⟩
  refine ⟨less_ext fun _ _ => rfl, ?_⟩
  (conv => whnf)
  refine call_of (g8 _ hr3) ?_
  rintro v F3 ⟨rfl, rfl⟩
  refine ⟨less_ext fun _ _ => rfl, ?_⟩
  (conv => whnf)
  refine call_of (g9 _ hr3) ?_
  rintro v F3 ⟨rfl, rfl⟩
  refine ⟨less_ext fun _ _ => rfl, ?_⟩
  have ob : ∀ v ∈ [Value.bool ((x26.toNat : Int) == 1)], v.oneCell' = true := by simp [Value.oneCell']
  have hput : ∀ (o1 : Obj), Ext (less F3 p) (F3.put p o1) := fun o1 => less_ext fun c hc => Heap.put_other _ _ hc
  (conv => whnf)
  refine store_step p 7 _ #[.int .i64 v0, .int .i64 v1, .int .i64 v2, .int .i64 v3, .int .i64 v4, .int .i64 v5, .int .i64 v6, .int .i64 v7, .int .i64 0, .int .i64 0, .bool false, .string .empty, .slice none 0 0] rfl hP rfl rfl (.inl (Nat.le_refl 0)) (oi _) ?_
  refine ⟨hput _, ?_⟩
  replace hput : ∀ o1, Ext (less F3 p) ((F3.put p (cmdO v0 v1 v2 v3 v4 v5 v6 v7 0 0 false .empty (.slice none 0 0))).put p o1) := fun o1 => less_ext fun c hc => by rw [Heap.put_other _ _ hc, Heap.put_other _ _ hc]
  have hE3 : Ext F1 (F3.put p (cmdO v0 v1 v2 v3 v4 v5 v6 v7 0 0 false .empty (.slice none 0 0))) := hE2.put hp _
  replace hP := Heap.put_same F3 p (cmdO v0 v1 v2 v3 v4 v5 v6 v7 0 0 false .empty (.slice none 0 0))
  generalize F3.put p (cmdO v0 v1 v2 v3 v4 v5 v6 v7 0 0 false .empty (.slice none 0 0)) = F4 at hP hput hE3 ⊢
  (conv => whnf)
  refine store_step p 8 _ #[.int .i64 v0, .int .i64 v1, .int .i64 v2, .int .i64 v3, .int .i64 v4, .int .i64 v5, .int .i64 v6, .int .i64 v7, .int .i64 v8, .int .i64 0, .bool false, .string .empty, .slice none 0 0] rfl hP rfl rfl (.inl (Nat.le_refl 0)) (oi _) ?_
  refine ⟨hput _, ?_⟩
  replace hE3 := hE3.put hp (cmdO v0 v1 v2 v3 v4 v5 v6 v7 v8 0 false .empty (.slice none 0 0))
  replace hput : ∀ o1, Ext (less F3 p) ((F4.put p (cmdO v0 v1 v2 v3 v4 v5 v6 v7 v8 0 false .empty (.slice none 0 0))).put p o1) := fun o1 => by rw [Heap.put_put]; exact hput o1
  replace hP := Heap.put_same F4 p (cmdO v0 v1 v2 v3 v4 v5 v6 v7 v8 0 false .empty (.slice none 0 0))
  generalize F4.put p (cmdO v0 v1 v2 v3 v4 v5 v6 v7 v8 0 false .empty (.slice none 0 0)) = F5 at hP hput hE3 ⊢
  (conv => whnf)
  refine store_step p 9 _ #[.int .i64 v0, .int .i64 v1, .int .i64 v2, .int .i64 v3, .int .i64 v4, .int .i64 v5, .int .i64 v6, .int .i64 v7, .int .i64 v8, .int .i64 v9, .bool false, .string .empty, .slice none 0 0] rfl hP rfl rfl (.inl (Nat.le_refl 0)) (oi _) ?_
  refine ⟨hput _, ?_⟩
  replace hE3 := hE3.put hp (cmdO v0 v1 v2 v3 v4 v5 v6 v7 v8 v9 false .empty (.slice none 0 0))
  replace hput : ∀ o1, Ext (less F3 p) ((F5.put p (cmdO v0 v1 v2 v3 v4 v5 v6 v7 v8 v9 false .empty (.slice none 0 0))).put p o1) := fun o1 => by rw [Heap.put_put]; exact hput o1
  replace hP := Heap.put_same F5 p (cmdO v0 v1 v2 v3 v4 v5 v6 v7 v8 v9 false .empty (.slice none 0 0))
  generalize F5.put p (cmdO v0 v1 v2 v3 v4 v5 v6 v7 v8 v9 false .empty (.slice none 0 0)) = F6 at hP hput hE3 ⊢
  (conv => whnf)
  refine store_step p 10 _ #[.int .i64 v0, .int .i64 v1, .int .i64 v2, .int .i64 v3, .int .i64 v4, .int .i64 v5, .int .i64 v6, .int .i64 v7, .int .i64 v8, .int .i64 v9, .bool ((x26.toNat : Int) == 1), .string .empty, .slice none 0 0] rfl hP rfl rfl (.inl (Nat.le_refl 0)) ob ?_
  refine ⟨hput _, ?_⟩
  replace hE3 := hE3.put hp (cmdO v0 v1 v2 v3 v4 v5 v6 v7 v8 v9 ((x26.toNat : Int) == 1) .empty (.slice none 0 0))
  replace hput : ∀ o1, Ext (less F3 p) ((F6.put p (cmdO v0 v1 v2 v3 v4 v5 v6 v7 v8 v9 ((x26.toNat : Int) == 1) .empty (.slice none 0 0))).put p o1) := fun o1 => by rw [Heap.put_put]; exact hput o1
  replace hP := Heap.put_same F6 p (cmdO v0 v1 v2 v3 v4 v5 v6 v7 v8 v9 ((x26.toNat : Int) == 1) .empty (.slice none 0 0))
  generalize F6.put p (cmdO v0 v1 v2 v3 v4 v5 v6 v7 v8 v9 ((x26.toNat : Int) == 1) .empty (.slice none 0 0)) = F7 at hP hput hE3 ⊢
  clear hput hE2 hr3
  have hr7 := hr1.mono hE3
  have wat : IntKind.i64.wrap (28 + IntKind.i64.wrap (x27.toNat : Int)) = ((rat b : Nat) : Int) := by
    rw [show IntKind.i64.wrap (x27.toNat : Int) = (x27.toNat : Int) by rw [IntKind.wrap_i64]; omega, IntKind.wrap_i64, hrat]
    omega
  (conv => whnf)
  refine ⟨⟨by omega, by omega⟩, ?_⟩
  (conv => whnf)
  refine load_step (v := .int .u8 (x27.toNat : Int)) (hr7.cell hb27) ?_
  (conv => whnf)
  have hra : rat b ≤ 283 := by omega
  have hz : szR b ↔ (rat b < b.length ∧ b.length = rat b + 1 + 14 * rmany b) := ⟨fun h => h.2, fun h => ⟨h29, h⟩⟩
  have hmy : rmany b = (b.getD (rat b) 0).toNat := rfl
  generalize hatn : rat b = at_ at wat hra hz hmy hdef hrat
  generalize rmany b = many at hz hmy hdef
  generalize hwt : IntKind.i64.wrap (28 + IntKind.i64.wrap (x27.toNat : Int)) = wt at wat ⊢
  subst wat
  refine cond_split (fun h => ?_) (fun h => ?_)
  case refine_2 =>
    have h : (!decide ((at_ : Int) ≥ (b.length : Int))) = false := h
    have hge : b.length ≤ at_ := by simp at h; omega
    (conv => whnf)
    refine store_step q 0 _ (cmdC 0 0 0 0 0 0 0 0 0 0 false .empty (.slice none 0 0)) rfl (hE3 _ _ hQ) rfl rfl (.inl (Nat.le_refl 0)) oz ?_
    (conv => whnf)
    refine res_cells tab_ok rfl rfl (Heap.put_same _ _ _) rfl ?_
    (conv => whnf)
    exact no _ (bad (fun hs => by have := (hz.1 hs).1; omega)) ((hE1.trans hE3).put hq _)
  have hlt : at_ < b.length := by
    have h : (!decide ((at_ : Int) ≥ (b.length : Int))) = true := h
    simp at h
    omega
  have hbat := byte_at hlt
  have hxl := (b.getD at_ 0).toNat_lt
  generalize b.getD at_ 0 = xat at hbat hmy hxl
  have wlen : IntKind.i64.wrap (IntKind.i64.wrap ((at_ : Int) + 1) + IntKind.i64.wrap (14 * IntKind.i64.wrap (xat.toNat : Int))) = ((at_ + 1 + 14 * xat.toNat : Nat) : Int) := by
    rw [show IntKind.i64.wrap (xat.toNat : Int) = (xat.toNat : Int) by rw [IntKind.wrap_i64]; omega, show IntKind.i64.wrap (14 * (xat.toNat : Int)) = 14 * (xat.toNat : Int) by rw [IntKind.wrap_i64]; omega, show IntKind.i64.wrap ((at_ : Int) + 1) = (at_ : Int) + 1 by rw [IntKind.wrap_i64]; omega, IntKind.wrap_i64]
    omega
  (conv => whnf)
  refine ⟨⟨by omega, by omega⟩, ?_⟩
  (conv => whnf)
  refine load_step (v := .int .u8 (xat.toNat : Int)) ?_ ?_
  · show F7.cell? (ad.add (Int.toNat (at_ : Int) * 1)) = _
    rw [Int.toNat_natCast, Nat.mul_one]
    exact hr7.cell hbat
  (conv => whnf)
  refine cond_split (fun h => ?_) (fun h => ?_)
  · have h : ((b.length : Int) != IntKind.i64.wrap (IntKind.i64.wrap ((at_ : Int) + 1) + IntKind.i64.wrap (14 * IntKind.i64.wrap (xat.toNat : Int)))) = true := h
    have hne : ¬ b.length = at_ + 1 + 14 * xat.toNat := by
      intro e
      rw [wlen, ← e] at h
      simp at h
    (conv => whnf)
    refine store_step q 0 _ (cmdC 0 0 0 0 0 0 0 0 0 0 false .empty (.slice none 0 0)) rfl (hE3 _ _ hQ) rfl rfl (.inl (Nat.le_refl 0)) oz ?_
    (conv => whnf)
    refine res_cells tab_ok rfl rfl (Heap.put_same _ _ _) rfl ?_
    (conv => whnf)
    exact no _ (bad (fun hs => by have := (hz.1 hs).2; rw [hmy] at this; exact hne this)) ((hE1.trans hE3).put hq _)
  have hsz : b.length = at_ + 1 + 14 * xat.toNat := by
    have h : ((b.length : Int) != IntKind.i64.wrap (IntKind.i64.wrap ((at_ : Int) + 1) + IntKind.i64.wrap (14 * IntKind.i64.wrap (xat.toNat : Int)))) = false := h
    have h := bne_eq_false_iff_eq.1 h
    rw [wlen] at h
    omega
  have hsR : szR b := hz.2 ⟨hlt, by rw [hmy]; exact hsz⟩
  rw [decide_eq_true hsR, Bool.true_and] at hok
  clear bad hz wlen h hsR
  have hnl : ((b.drop 28).take x27.toNat).length = x27.toNat := by rw [List.length_take, List.length_drop]; omega
  have hN2 : Int.toNat (at_ : Int) - Int.toNat 28 = ((b.drop 28).take x27.toNat).length := by rw [hnl]; omega
  have hrow : ∀ j (v : Value), (((b.drop 28).take x27.toNat).map fun x => Value.int .u8 x.toNat)[j]? = some v → ∃ a, (if c = Int.toNat 28 then some ad else (some ad).map (·.add (Int.toNat 28 * 1))) = some a ∧ F7.cell? (a.add j) = some v := by
    intro j v hj
    have hj' : (bytesOf b)[28 + j]? = some v := by
      rw [List.getElem?_map, List.getElem?_take] at hj
      split at hj
      · rw [List.getElem?_drop] at hj
        rw [bytesOf, List.getElem?_map]
        exact hj
      · cases hj
    rw [show Int.toNat 28 = 28 from rfl, if_neg (by omega), Nat.mul_one]
    exact ⟨ad.add 28, rfl, by rw [add_add]; exact hr7.cell hj'⟩
  generalize hnm : (b.drop 28).take x27.toNat = nm at hN2 hrow hdef hnl
  refine short [0, 2, 4, 5] [.slice (some ad) b.length c, .pointer (some ⟨q, 0, none⟩), .pointer (some ⟨p, 0, none⟩), .int .i64 (at_ : Int)] rfl fun ρ => ?_
  (conv => whnf)
  refine ⟨⟨by omega, by omega⟩, ?_⟩
  (conv => whnf)
  refine ⟨⟨by decide, by omega⟩, ?_⟩
  (conv => whnf)
  refine conv_str (c := c - Int.toNat 28) tab_ok nm rfl (congrArg (fun z => Value.slice (if c = Int.toNat 28 then some ad else (some ad).map (·.add (Int.toNat 28 * 1))) z (c - Int.toNat 28)) hN2) rfl rfl rfl hrow ?_
  have os : ∀ v ∈ [Value.string ⟨nm.toArray⟩], v.oneCell' = true := by simp [Value.oneCell']
  (conv => whnf)
  refine store_step p 11 _ #[.int .i64 v0, .int .i64 v1, .int .i64 v2, .int .i64 v3, .int .i64 v4, .int .i64 v5, .int .i64 v6, .int .i64 v7, .int .i64 v8, .int .i64 v9, .bool ((x26.toNat : Int) == 1), .string ⟨nm.toArray⟩, .slice none 0 0] rfl hP rfl rfl (.inl (Nat.le_refl 0)) os ?_
  have hE8 := hE3.put hp (cmdO v0 v1 v2 v3 v4 v5 v6 v7 v8 v9 ((x26.toNat : Int) == 1) ⟨nm.toArray⟩ (.slice none 0 0))
  have hP8 := Heap.put_same F7 p (cmdO v0 v1 v2 v3 v4 v5 v6 v7 v8 v9 ((x26.toNat : Int) == 1) ⟨nm.toArray⟩ (.slice none 0 0))
  generalize F7.put p (cmdO v0 v1 v2 v3 v4 v5 v6 v7 v8 v9 ((x26.toNat : Int) == 1) ⟨nm.toArray⟩ (.slice none 0 0)) = F8 at hP8 hE8 ⊢
  clear hr7 hrow hP hE3 os hN2
  (conv => whnf)
  refine loop_slots [0, 2, 4, 5, 6] (fun mm vs F' => ∃ (j : Nat) (S : Value), j + mm = many ∧ vs = [.slice (some ad) b.length c, .pointer (some ⟨q, 0, none⟩), .pointer (some ⟨p, 0, none⟩), .int .i64 (at_ : Int), .int .i64 (j : Int)] ∧ F' p = some (cmdO v0 v1 v2 v3 v4 v5 v6 v7 v8 v9 ((x26.toNat : Int) == 1) ⟨nm.toArray⟩ S) ∧ Mine F1 F' S 59 4 ((linesR b at_ many).take j).length (linesV ((linesR b at_ many).take j))) many ⟨0, .slice none 0 0, by omega, rfl, hP8, Mine.nil _ _ _ _ hE8⟩ ?_
  clear hP8 hE8
  rintro mm vs F9 ρ ⟨j, S, hjm, rfl, hP, hM⟩
  have hr9 := hr1.mono hM.ext
  have hxw : IntKind.i64.wrap (xat.toNat : Int) = ((many : Nat) : Int) := by rw [hmy, IntKind.wrap_i64]; omega
  (conv => whnf)
  refine ⟨⟨by omega, by omega⟩, ?_⟩
  (conv => whnf)
  refine load_step (v := .int .u8 (xat.toNat : Int)) ?_ ?_
  · show F9.cell? (ad.add (Int.toNat (at_ : Int) * 1)) = _
    rw [Int.toNat_natCast, Nat.mul_one]
    exact hr9.cell hbat
  (conv => whnf)
  refine cond_split (fun h => ?_) (fun h => ?_)
  · have hj : j < many := by
      have h : decide ((j : Int) < IntKind.i64.wrap (xat.toNat : Int)) = true := h
      have := of_decide_eq_true h
      rw [hxw] at this
      omega
    clear h
    have ht := linesR_take b at_ many j hj
    have hll : ((linesR b at_ many).take j).length ≤ 255 := by rw [List.length_take, linesR_len]; omega
    generalize (linesR b at_ many).take j = cur at ht hll hM
    have hSp := hM.own.blk_ne hP line_cmd
    have hkw : IntKind.i64.wrap (IntKind.i64.wrap ((at_ : Int) + 1) + IntKind.i64.wrap (14 * (j : Int))) = ((at_ + 1 + 14 * j : Nat) : Int) := by
      rw [show IntKind.i64.wrap (14 * (j : Int)) = 14 * (j : Int) by rw [IntKind.wrap_i64]; omega, show IntKind.i64.wrap ((at_ : Int) + 1) = (at_ : Int) + 1 by rw [IntKind.wrap_i64]; omega, IntKind.wrap_i64]
      omega
    have hlR : lnR b (at_ + 1 + 14 * j) = ⟨getN b (at_ + 1 + 14 * j) 2, getN b (at_ + 1 + 14 * j + 2) 2, getN b (at_ + 1 + 14 * j + 4) 2, getN b (at_ + 1 + 14 * j + 6) 8⟩ := rfl
    have hk0 : at_ + 1 + 14 * j ≤ 50000 := by omega
    generalize at_ + 1 + 14 * j = k0 at hkw ht hlR hk0
    have k2 : IntKind.i64.wrap ((k0 : Int) + 2) = ((k0 + 2 : Nat) : Int) := by rw [IntKind.wrap_i64]; omega
    have k4 : IntKind.i64.wrap ((k0 : Int) + 4) = ((k0 + 4 : Nat) : Int) := by rw [IntKind.wrap_i64]; omega
    have k6 : IntKind.i64.wrap ((k0 : Int) + 6) = ((k0 + 6 : Nat) : Int) := by rw [IntKind.wrap_i64]; omega
    have c0 := hg 2 (.inr (.inl rfl)) k0 F9 hr9 (by omega)
    have c2 := hg 2 (.inr (.inl rfl)) (k0 + 2) F9 hr9 (by omega)
    have c4 := hg 2 (.inr (.inl rfl)) (k0 + 4) F9 hr9 (by omega)
    have c6 := hg 8 (.inr (.inr (.inr rfl))) (k0 + 6) F9 hr9 (by omega)
    rw [← k2] at c2
    rw [← k4] at c4
    rw [← k6] at c6
    generalize getN b k0 2 = w1 at c0 hlR
    generalize getN b (k0 + 2) 2 = w2 at c2 hlR
    generalize getN b (k0 + 4) 2 = w3 at c4 hlR
    generalize getN b (k0 + 6) 8 = w4 at c6 hlR
    (conv => whnf)
    refine short [0, 2, 4, 5, 6, 7] [.slice (some ad) b.length c, .pointer (some ⟨q, 0, none⟩), .pointer (some ⟨p, 0, none⟩), .int .i64 (at_ : Int), .int .i64 (j : Int), .int .i64 (k0 : Int)] (by rw [← hkw]; rfl) fun ρ => ?_
    refine draw_walk tab_ok (by kernel_rfl) [0, 1, 2, 3, 5, 6, 7, 9, 10, 11, 13, 14, 15, 4, 8, 12, 16, 17, 18, 19, 20, 21] (by kernel_rfl) ?_
    (conv => whnf)
    refine load_blk hP rfl rfl ?_
    (conv => whnf)
    refine call_of c0 ?_
    rintro v F9 ⟨rfl, rfl⟩
    refine ⟨Ext.refl _, ?_⟩
    (conv => whnf)
    refine call_of c2 ?_
    rintro v F9 ⟨rfl, rfl⟩
    refine ⟨Ext.refl _, ?_⟩
    (conv => whnf)
    refine call_of c4 ?_
    rintro v F9 ⟨rfl, rfl⟩
    refine ⟨Ext.refl _, ?_⟩
    (conv => whnf)
    refine call_of c6 ?_
    rintro v F9 ⟨rfl, rfl⟩
    refine ⟨Ext.refl _, ?_⟩
    (conv => whnf)
    refine ⟨Ext.refl _, ?_⟩
    (conv => whnf)
    refine new_step (lineO w1 w2 w3 w4) rfl fun g hgn => ?_
    have hXg := Ext.new hgn (lineO w1 w2 w3 w4)
    have hG := Heap.put_same F9 g (lineO w1 w2 w3 w4)
    have hP10 := hXg _ _ hP
    have hM10 := hM.mono hXg
    refine ⟨hXg, ?_⟩
    generalize F9.put g _ = F10 at hG hP10 hM10 ⊢
    (conv => whnf)
    refine append_mine tab_ok (m := 1) (ys := lineV ⟨w1, w2, w3, w4⟩) (y := .slice (some ⟨g, 0, none⟩) 1 1) rfl rfl rfl rfl rfl ⟨_, rfl, fun k h => by cases h⟩ ⟨_, rfl, rfl⟩ (by decide) hM10 ⟨rfl, .inl ⟨_, _, rfl, fun j v hj => ⟨_, rfl, by rw [add_plain, Heap.cell_at hG, Nat.zero_add, ← Array.getElem?_toList]; exact hj⟩⟩⟩ (by simp [lineV, Value.oneCell']) (by show 2 * (cur.length + 1) * 32 ≤ _; omega) fun s' F11 hM11 hk11 => ?_
    have hP11 := hk11 _ _ hP10 (hM10.own.blk_ne hP10 line_cmd)
    have hM12 : Mine F1 F11 s' 59 4 (cur ++ [(⟨w1, w2, w3, w4⟩ : LD)]).length (linesV (cur ++ [(⟨w1, w2, w3, w4⟩ : LD)])) := by
      rw [List.length_append, List.length_singleton, show linesV (cur ++ [(⟨w1, w2, w3, w4⟩ : LD)]) = linesV cur ++ lineV ⟨w1, w2, w3, w4⟩ by simp [linesV]]
      exact hM11
    rw [← hlR, ← ht] at hM12
    have hsp := hM12.own.blk_ne hP11 line_cmd
    obtain ⟨B', c', rfl, _, _⟩ := hM12.own.row
    have ol : ∀ v ∈ [Value.slice B' ((linesR b at_ many).take (j + 1)).length c'], v.oneCell' = true := by simp [Value.oneCell']
    (conv => whnf)
    refine store_step p 12 _ #[.int .i64 v0, .int .i64 v1, .int .i64 v2, .int .i64 v3, .int .i64 v4, .int .i64 v5, .int .i64 v6, .int .i64 v7, .int .i64 v8, .int .i64 v9, .bool ((x26.toNat : Int) == 1), .string ⟨nm.toArray⟩, .slice B' ((linesR b at_ many).take (j + 1)).length c'] rfl hP11 rfl rfl (.inl (Nat.le_refl 0)) ol ?_
    have hM13 := hM12.put hp hsp (cmdO v0 v1 v2 v3 v4 v5 v6 v7 v8 v9 ((x26.toNat : Int) == 1) ⟨nm.toArray⟩ (.slice B' ((linesR b at_ many).take (j + 1)).length c'))
    have hP13 := Heap.put_same F11 p (cmdO v0 v1 v2 v3 v4 v5 v6 v7 v8 v9 ((x26.toNat : Int) == 1) ⟨nm.toArray⟩ (.slice B' ((linesR b at_ many).take (j + 1)).length c'))
    generalize F11.put p (cmdO v0 v1 v2 v3 v4 v5 v6 v7 v8 v9 ((x26.toNat : Int) == 1) ⟨nm.toArray⟩ (.slice B' ((linesR b at_ many).take (j + 1)).length c')) = F13 at hM13 hP13 ⊢
    (conv => whnf)
    refine ⟨mm - 1, by omega, j + 1, _, by omega, ?_, hP13, hM13⟩
    have hw : IntKind.i64.wrap ((j : Int) + 1) = ((j + 1 : Nat) : Int) := by rw [IntKind.wrap_i64]; omega
    rw [← hw]
    rfl
  · have hj : j = many := by
      have h : decide ((j : Int) < IntKind.i64.wrap (xat.toNat : Int)) = false := h
      have := of_decide_eq_false h
      rw [hxw] at this
      omega
    clear h
    subst hj
    rw [show (linesR b at_ j).take j = linesR b at_ j by rw [List.take_of_length_le (by rw [linesR_len]; exact Nat.le_refl _)]] at hM
    have hll : (linesR b at_ j).length ≤ 10000 := by rw [linesR_len]; omega
    generalize linesR b at_ j = L at hM hdef hll
    obtain ⟨B, cc, rfl, _, hRow⟩ := hM.own.row
    have hEc := fun G hx => rencode v0 v1 v2 v3 v4 v5 v6 v7 v8 v9 ((x26.toNat : Int) == 1) nm L B cc G hx (by omega) hll
    rw [← hdef] at hEc
    have hEF := hE1.trans hM.ext
    have hQ9 := hM.ext _ _ hQ
    (conv => whnf)
    refine ⟨⟨_, _, _, hP, rfl, Nat.le_refl 13, ?_⟩⟩
    (conv => whnf)
    refine call_of (hEc F9 hRow) ?_
    rintro v F50 ⟨⟨own, rfl, hown⟩, hE50⟩
    have hP50 := hE50 _ _ hP
    have hQ50 := hE50 _ _ hQ9
    have hRow50 := hRow.mono hE50
    have hr50 := hr.mono (hEF.trans hE50)
    have hEF50 := hEF.trans hE50
    generalize mayB (rcmdOf b) = mb at hok hown
    cases mb with
    | false =>
      have hbad : okR b = false := hok
      (conv => whnf)
      refine store_step q 0 _ (cmdC 0 0 0 0 0 0 0 0 0 0 false .empty (.slice none 0 0)) rfl hQ50 rfl rfl (.inl (Nat.le_refl 0)) oz ?_
      (conv => whnf)
      refine res_cells tab_ok rfl rfl (Heap.put_same _ _ _) rfl ?_
      (conv => whnf)
      exact no _ hbad (hEF50.put hq _)
    | true =>
    obtain ⟨O, oc', rfl, _, hOr⟩ := hown
    have hbe := str_beq (encB (rcmdOf b)) b
    change _ = (true && (encB (rcmdOf b) == b)) at hok
    rw [Bool.true_and] at hok
    rw [← hok] at hbe
    change RowAt F50 O (bytesOf (encB (rcmdOf b))) at hOr
    change ((⟨(encB (rcmdOf b)).toArray⟩ : ByteArray).toList == _) = _ at hbe
    generalize encB (rcmdOf b) = eb at hbe hOr hok ⊢
    (conv => whnf)
    refine conv_str tab_ok eb rfl rfl rfl rfl rfl hOr ?_
    (conv => whnf)
    refine conv_str tab_ok b rfl rfl rfl rfl rfl hr50 ?_
    (conv => whnf)
    refine cond_split (fun h => ?_) (fun h => ?_)
    · have hbad : okR b = false := by
        have h : ((⟨eb.toArray⟩ : ByteArray).toList != (⟨b.toArray⟩ : ByteArray).toList) = true := h
        unfold bne at h
        rw [hbe] at h
        simpa using h
      (conv => whnf)
      refine store_step q 0 _ (cmdC 0 0 0 0 0 0 0 0 0 0 false .empty (.slice none 0 0)) rfl hQ50 rfl rfl (.inl (Nat.le_refl 0)) oz ?_
      (conv => whnf)
      refine res_cells tab_ok rfl rfl (Heap.put_same _ _ _) rfl ?_
      (conv => whnf)
      exact no _ hbad (hEF50.put hq _)
    · have hgood : okR b = true := by
        have h : ((⟨eb.toArray⟩ : ByteArray).toList != (⟨b.toArray⟩ : ByteArray).toList) = false := h
        unfold bne at h
        rw [hbe] at h
        simpa using h
      have of : ∀ v ∈ [Value.int .i64 v0, .int .i64 v1, .int .i64 v2, .int .i64 v3, .int .i64 v4, .int .i64 v5, .int .i64 v6, .int .i64 v7, .int .i64 v8, .int .i64 v9, .bool ((x26.toNat : Int) == 1), .string ⟨nm.toArray⟩, .slice B L.length cc], v.oneCell' = true := by simp [Value.oneCell']
      (conv => whnf)
      refine ⟨⟨_, _, _, hP50, rfl, Nat.le_refl 13, ?_⟩⟩
      (conv => whnf)
      refine store_step q 0 _ #[.int .i64 v0, .int .i64 v1, .int .i64 v2, .int .i64 v3, .int .i64 v4, .int .i64 v5, .int .i64 v6, .int .i64 v7, .int .i64 v8, .int .i64 v9, .bool ((x26.toNat : Int) == 1), .string ⟨nm.toArray⟩, .slice B L.length cc] rfl hQ50 rfl rfl (.inl (Nat.le_refl 0)) of ?_
      (conv => whnf)
      refine res_cells tab_ok rfl rfl (Heap.put_same _ _ _) rfl ?_
      (conv => whnf)
      refine ⟨⟨B, cc, ?_, ?_⟩, hEF50.put hq _⟩
      · rw [hgood, if_pos rfl, if_pos rfl, hdef]
        rfl
      · rw [hgood, if_pos rfl, hdef]
        refine row_keeps hRow50 (fun a ha e => ?_) (Keeps.put _ _ _)
        subst ha
        have := (hM.mono hE50).own.blk_ne hQ50 line_cmd
        exact this (congrArg some e)
end Go.Proofs.Ytkahpaipciooiac.Al

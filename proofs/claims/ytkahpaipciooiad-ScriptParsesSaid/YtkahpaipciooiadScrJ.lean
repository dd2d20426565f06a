/- The contract of the reference's one, over what is known of memory. -/
import Derived.Test.YtkahpaipciooiadScrI
import Derived.Test.YtkahpaipciooiadScrB
namespace Go.Proofs.Ytkahpaipciooiad.Al
open Go Go.Al Go.Proofs Go.RowKit
set_option maxHeartbeats 8000000
set_option maxRecDepth 100000
set_option linter.unusedVariables false
set_option linter.unusedSimpArgs false
theorem getN_drop (b : List UInt8) (d i m : Nat) (h : d ≤ b.length) : getN (b.drop d) i m = getN b (d + i) m := by
  unfold getN
  rw [List.length_drop, List.drop_drop]
  by_cases h1 : i + m ≤ b.length - d
  · rw [if_pos h1, if_pos (by omega)]
  · rw [if_neg h1, if_neg (by omega)]
theorem own_cells {F : Heap} {S : Value} {e z n w : Nat} {vs : List Value} (h : Own F S e z n vs) (hw : blk S = some w) : ∃ cs fz, F w = some (.cells cs e fz) := by
  rcases h.2 with ⟨h1, _⟩ | ⟨b, c, cs', h1, ⟨fz', hb, _⟩, _⟩
  · subst h1; cases hw
  · subst h1
    obtain rfl : b = w := Option.some.inj hw
    exact ⟨cs', fz', hb⟩
theorem mine_kept {F0 F F' : Heap} {S T : Value} {e e' z z' n n' : Nat} {vs vs' : List Value} (h : Mine F0 F T e z n vs) (hs : Mine F0 F S e' z' n' vs') (hne : e ≠ e') (hk : Keeps F F' (blk S)) : Mine F0 F' T e z n vs := by
  cases hb : blk S with
  | none => rw [hb] at hk; exact h.mono fun c o hc => hk c o hc (by simp)
  | some r =>
    rw [hb] at hk
    obtain ⟨cs, fz, hc⟩ := own_cells hs.own hb
    exact h.keeps (h.own.blk_ne hc hne) hk (hs.fresh r hb)
theorem int_u8 : (3 : Nat) ≠ 5 := by decide
/-- An event that is being made in block u, a result waiting in block q. -/
structure EP (F0 F : Heap) (q u : Nat) (k n : Int) (S T : Value) (bs : List UInt8) (ks : List Int) : Prop where
  cells : F u = some (evO k n S T)
  res : F q = some zeroE
  new : F0 u = none
  rnew : F0 q = none
  ne : q ≠ u
  ms : Mine F0 F S 5 1 bs.length (bytesOf bs)
  mt : Mine F0 F T 3 1 ks.length (ks.map (.int .i64))
theorem EP.mono {F0 F G : Heap} {q u : Nat} {k n : Int} {S T : Value} {bs : List UInt8} {ks : List Int} (h : EP F0 F q u k n S T bs ks) (hE : Ext F G) : EP F0 G q u k n S T bs ks :=
  ⟨hE _ _ h.cells, hE _ _ h.res, h.new, h.rnew, h.ne, h.ms.mono hE, h.mt.mono hE⟩
theorem EP.put {F0 F : Heap} {q u : Nat} {k n : Int} {S T : Value} {bs : List UInt8} {ks : List Int} (h : EP F0 F q u k n S T bs ks) (k' n' : Int) : EP F0 (F.put u (evO k' n' S T)) q u k' n' S T bs ks :=
  ⟨Heap.put_same _ _ _, by rw [Heap.put_other _ _ h.ne]; exact h.res, h.new, h.rnew, h.ne, mine_put h.ms h.new h.cells u8_event _, mine_put h.mt h.new h.cells int_event _⟩
theorem EP.setS {F0 F F' : Heap} {q u : Nat} {k n : Int} {S T S' : Value} {bs bs' : List UInt8} {ks : List Int} (h : EP F0 F q u k n S T bs ks) (hk : Keeps F F' (blk S)) (hm : Mine F0 F' S' 5 1 bs'.length (bytesOf bs')) : F' u = some (evO k n S T) ∧ EP F0 (F'.put u (evO k n S' T)) q u k n S' T bs' ks := by
  have h1 : F' u = some (evO k n S T) := hk _ _ h.cells fun e => h.ms.own.blk_ne h.cells u8_event e
  have h2 : F' q = some zeroE := hk _ _ h.res fun e => h.ms.own.blk_ne h.res u8_event e
  exact ⟨h1, Heap.put_same _ _ _, by rw [Heap.put_other _ _ h.ne]; exact h2, h.new, h.rnew, h.ne, mine_put hm h.new h1 u8_event _, mine_put (mine_kept h.mt h.ms int_u8 hk) h.new h1 int_event _⟩
theorem EP.setT {F0 F F' : Heap} {q u : Nat} {k n : Int} {S T T' : Value} {bs : List UInt8} {ks ks' : List Int} (h : EP F0 F q u k n S T bs ks) (hk : Keeps F F' (blk T)) (hm : Mine F0 F' T' 3 1 ks'.length (ks'.map (.int .i64))) : F' u = some (evO k n S T) ∧ EP F0 (F'.put u (evO k n S T')) q u k n S T' bs ks' := by
  have h1 : F' u = some (evO k n S T) := hk _ _ h.cells fun e => h.mt.own.blk_ne h.cells int_event e
  have h2 : F' q = some zeroE := hk _ _ h.res fun e => h.mt.own.blk_ne h.res int_event e
  exact ⟨h1, Heap.put_same _ _ _, by rw [Heap.put_other _ _ h.ne]; exact h2, h.new, h.rnew, h.ne, mine_put (mine_kept h.ms h.mt int_u8.symm hk) h.new h1 u8_event _, mine_put hm h.new h1 int_event _⟩
/-- What the reference's first event of bytes comes to. -/
def One (b : List UInt8) (F0 : Heap) (v : Value) (F : Heap) : Prop :=
  if firstOk b then ∃ A1 c1 B1 cc1, v = .tuple #[.agg (evC (evOf b).k (evOf b).n (.slice A1 (evOf b).bs.length c1) (.slice B1 (evOf b).ks.length cc1)), .int .i64 (firstN b : Int), .bool true] ∧ EvOk F ⟨evOf b, A1, c1, B1, cc1⟩ ∧ EvNew F0 ⟨evOf b, A1, c1, B1, cc1⟩
  else ∃ k n A1 l1 c1 B1 l2 c2 y, v = .tuple #[.agg (evC k n (.slice A1 l1 c1) (.slice B1 l2 c2)), .int .i64 y, .bool false]
theorem os0 (k : Int) : ∀ v ∈ [Value.int .i64 k], v.oneCell' = true := by simp [Value.oneCell']
theorem one (b : List UInt8) (A : Option Addr) (c : Nat) (F : Heap) (hr : RowAt F A (bytesOf b)) (hl : b.length ≤ 50000) (hc : b.length ≤ c) :
    FnK Try.prog 51 #[.slice A b.length c] F (fun v F' => One b F v F' ∧ Ext F F') := by
  have no : ∀ (F' : Heap) k n A1 l1 c1 B1 l2 c2 y, ¬ firstOk b → Ext F F' → One b F (.tuple #[.agg (evC k n (.slice A1 l1 c1) (.slice B1 l2 c2)), .int .i64 y, .bool false]) F' ∧ Ext F F' := by
    intro F' k n A1 l1 c1 B1 l2 c2 y h hX
    unfold One
    rw [if_neg h]
    exact ⟨⟨k, n, A1, l1, c1, B1, l2, c2, y, rfl⟩, hX⟩
  have yes : firstOk b → ∀ (F' : Heap) A1 c1 B1 cc1, EvOk F' ⟨evOf b, A1, c1, B1, cc1⟩ → EvNew F ⟨evOf b, A1, c1, B1, cc1⟩ → Ext F F' → One b F (.tuple #[.agg (evC (evOf b).k (evOf b).n (.slice A1 (evOf b).bs.length c1) (.slice B1 (evOf b).ks.length cc1)), .int .i64 (firstN b : Int), .bool true]) F' ∧ Ext F F' := by
    intro h F' A1 c1 B1 cc1 h1 h2 hX
    unfold One
    rw [if_pos h]
    exact ⟨⟨A1, c1, B1, cc1, rfl, h1, h2⟩, hX⟩
  have hfo : firstOk b ↔ 5 ≤ b.length ∧ 5 + sN b ≤ b.length ∧ (1 + 2 * kMany (tlB b) ≤ b.length - (5 + sN b) ∧ 1 ≤ b.length - (5 + sN b)) ∧ checkB (evOf b) = true := by
    unfold firstOk keptOk
    rw [show (tlB b).length = b.length - (5 + sN b) from List.length_drop]
  have hev : evOf b = ⟨(b.getD 0 0).toNat, getN b 1 2, (b.drop 5).take (sN b), keptL (tlB b)⟩ := rfl
  have hfn : firstN b = 5 + sN b + (1 + 2 * kMany (tlB b)) := rfl
  have hkm : sN b + 5 ≤ b.length → kMany (tlB b) = (b.getD (5 + sN b) 0).toNat := by
    intro h
    unfold kMany tlB
    rw [List.getD_eq_getElem?_getD, List.getElem?_drop, List.getD_eq_getElem?_getD, Nat.add_zero]
  have hkt := keptL_take (tlB b)
  have hkl := keptL_len (tlB b)
  have hgd : sN b + 5 ≤ b.length → ∀ i, getN (tlB b) i 2 = getN b (5 + sN b + i) 2 := fun h i => getN_drop b _ _ _ (by omega)
  have hg := fun i hi G hg => getG 2 (.inr (.inl rfl)) b A c i G hg (by omega) hc hi
  have hg1 := fun G hg => rgetG 2 (.inr (.inl rfl)) b A c 1 G hg (by omega) hc (by omega)
  have hg3 := fun G hg => rgetG 2 (.inr (.inl rfl)) b A c 3 G hg (by omega) hc (by omega)
  have hgi := fun i hi G hg => rgetG 2 (.inr (.inl rfl)) b A c i G hg (by omega) hc hi
  have hs2 := getN2 b 3
  have hs : sN b = (getN b 3 2).toNat := rfl
  rw [← hs] at hs2
  clear hs
  obtain ⟨hs1, hs2⟩ := hs2
  rw [hs1] at hg3
  generalize firstOk b = ok at no yes hfo
  generalize evOf b = ev at yes hfo hev
  generalize firstN b = N at yes hfn
  generalize tlB b = tb at hfo hev hfn hkm hkt hkl hgd
  generalize sN b = s at hfo hev hfn hg3 hs2 hkm hgd
  generalize getN b 1 2 = n at hg1 hev
  clear hs1
  (refine fn_walk tab_ok Try.func51 rfl rfl rfl rfl ?_; (conv => whnf))
  refine new_step zeroE rfl fun q hq => ?_
  have hE := Ext.new hq zeroE
  have hQ := Heap.put_same F q zeroE
  generalize F.put q zeroE = F1 at hE hQ ⊢
  (conv => whnf)
  refine cond_split (fun h => ?_) (fun h => ?_)
  · have h : decide ((b.length : Int) < 6) = true := h
    have h := of_decide_eq_true h
    (conv => whnf)
    refine store_step q 0 _ _ rfl hQ rfl rfl (.inl (Nat.le_refl 0)) ozE ?_
    (conv => whnf)
    refine res_cells tab_ok rfl rfl (Heap.put_same _ _ _) rfl ?_
    (conv => whnf)
    exact no _ _ _ _ _ _ _ _ _ _ (fun e => by have := (hfo.1 e).2.2.1.2; omega) (hE.put hq _)
  have h6 : 6 ≤ b.length := by
    have h : decide ((b.length : Int) < 6) = false := h
    have := of_decide_eq_false h
    omega
  obtain ⟨ad, rfl⟩ := hr.some (by rw [bytes_len]; omega)
  have hr1 := hr.mono hE
  have hb0 := byte_at (show 0 < b.length by omega)
  have hxl := (b.getD 0 0).toNat_lt
  generalize b.getD 0 0 = x0 at hb0 hxl hev
  have hw0 : IntKind.i64.wrap (x0.toNat : Int) = (x0.toNat : Int) := by rw [IntKind.wrap_i64]; omega
  (conv => whnf)
  refine ⟨⟨by omega, by omega⟩, ?_⟩
  (conv => whnf)
  refine load_step (v := .int .u8 (x0.toNat : Int)) ?_ ?_
  · show F1.cell? (ad.add 0) = _
    exact hr1.cell hb0
  (conv => whnf)
  refine new_step zeroE rfl fun u hu => ?_
  have hqu : q ≠ u := fun e => by rw [e, hu] at hQ; cases hQ
  have hu0 : F u = none := by
    cases e : F u with
    | none => rfl
    | some o => rw [hE u o e] at hu; cases hu
  have hX := Ext.new hu zeroE
  have hP : EP F (F1.put u zeroE) q u 0 0 (.slice none 0 0) (.slice none 0 0) [] [] := ⟨Heap.put_same _ _ _, hX _ _ hQ, hu0, hq, hqu, Mine.nil _ _ _ _ (hE.trans hX), Mine.nil _ _ _ _ (hE.trans hX)⟩
  generalize F1.put u zeroE = F2 at hX hP ⊢
  clear hE hQ hu hX hr1
  (conv => whnf)
  refine store_step u 0 _ (evC (x0.toNat : Int) 0 (.slice none 0 0) (.slice none 0 0)) rfl hP.cells (congrArg (fun z => #[Value.int .i64 z, .int .i64 0, .slice none 0 0, .slice none 0 0]) hw0) rfl (.inl (Nat.le_refl 0)) (os4 _ _ _ _ _ _ _ _) ?_
  replace hP := hP.put (x0.toNat : Int) 0
  generalize F2.put u _ = F3 at hP ⊢
  refine short [0, 2, 5] [.slice (some ad) b.length c, .pointer (some ⟨q, 0, none⟩), .pointer (some ⟨u, 0, none⟩)] rfl fun ρ => ?_
  (conv => whnf)
  refine call_of (hg1 F3 (hr.mono hP.ms.ext)) ?_
  rintro v F3 ⟨rfl, rfl⟩
  (conv => whnf)
  refine store_step u 1 _ (evC (x0.toNat : Int) n (.slice none 0 0) (.slice none 0 0)) rfl hP.cells rfl rfl (.inl (Nat.le_refl 0)) (os0 _) ?_
  replace hP := hP.put (x0.toNat : Int) n
  generalize F3.put u _ = F4 at hP ⊢
  (conv => whnf)
  refine call_of (hg3 F4 (hr.mono hP.ms.ext)) ?_
  rintro v F4 ⟨rfl, rfl⟩
  have hsub : IntKind.i64.wrap ((b.length : Int) - 6) = ((b.length - 6 : Nat) : Int) := by rw [IntKind.wrap_i64]; omega
  (conv => whnf)
  refine cond_split (fun h => ?_) (fun h => ?_)
  · have h : decide ((s : Int) > IntKind.i64.wrap ((b.length : Int) - 6)) = true := h
    have h := of_decide_eq_true h
    rw [hsub] at h
    (conv => whnf)
    refine store_step q 0 _ _ rfl hP.res rfl rfl (.inl (Nat.le_refl 0)) ozE ?_
    (conv => whnf)
    refine res_cells tab_ok rfl rfl (Heap.put_same _ _ _) rfl ?_
    (conv => whnf)
    exact no _ _ _ _ _ _ _ _ _ _ (fun e => by have := (hfo.1 e).2.2.1.2; omega) (hP.ms.ext.put hq _)
  have hfit : 6 + s ≤ b.length := by
    have h : decide ((s : Int) > IntKind.i64.wrap ((b.length : Int) - 6)) = false := h
    have := of_decide_eq_false h
    rw [hsub] at this
    omega
  have hlo : IntKind.i64.wrap (5 + (s : Int)) = ((5 + s : Nat) : Int) := by rw [IntKind.wrap_i64]; omega
  have hlo6 : IntKind.i64.wrap (6 + (s : Int)) = ((6 + s : Nat) : Int) := by rw [IntKind.wrap_i64]; omega
  have hlo0 : (5 : Int) ≤ IntKind.i64.wrap (5 + (s : Int)) := by rw [hlo]; omega
  have hlo1 : IntKind.i64.wrap (5 + (s : Int)) ≤ (c : Int) := by rw [hlo]; omega
  have hlo2 : IntKind.i64.wrap (5 + (s : Int)) < (b.length : Int) := by rw [hlo]; omega
  have hbsl : ((b.drop 5).take s).length = s := by rw [List.length_take, List.length_drop]; omega
  have hcut : RowAt F4 (cutA c (some ad) 5) (bytesOf ((b.drop 5).take s)) := cut_row 5 s (hr.mono hP.ms.ext) hc
  have hVs : Value.slice (if c = 5 then some ad else (some ad).map (·.add (5 * 1))) (Int.toNat (IntKind.i64.wrap (5 + (s : Int))) - 5) (c - 5) = .slice (cutA c (some ad) 5) ((b.drop 5).take s).length (c - 5) := by
    rw [hlo, Int.toNat_natCast, show 5 + s - 5 = s by omega, hbsl]
    rfl
  generalize (b.drop 5).take s = bs at hbsl hcut hVs hev
  (conv => whnf)
  refine ⟨⟨by omega, by omega⟩, ?_⟩
  (conv => whnf)
  refine ⟨⟨by omega, by omega⟩, ?_⟩
  (conv => whnf)
  refine append_mine tab_ok rfl rfl (y := .slice (cutA c (some ad) 5) bs.length (c - 5)) ?hq rfl rfl ⟨_, rfl, fun k h => by cases h⟩ ⟨_, rfl, rfl⟩ (by decide) (Mine.nil F F4 5 1 hP.ms.ext) (m := bs.length) (ys := bytesOf bs) ⟨by simp [bytesOf], .inl ⟨_, _, rfl, hcut⟩⟩ (hone_bytes bs) (by show 2 * (0 + bs.length) * 1 ≤ _; omega) fun S F5 hm hk => ?_
  case hq =>
    conv => lhs; whnf
    exact hVs
  rw [Nat.zero_add, List.nil_append] at hm
  obtain ⟨A1, c1, rfl, _, _⟩ := hm.own.row
  obtain ⟨hU5, hP5⟩ := hP.setS hk hm
  (conv => whnf)
  refine store_step u 2 _ (evC (x0.toNat : Int) n (.slice A1 bs.length c1) (.slice none 0 0)) rfl hU5 rfl rfl (.inl (Nat.le_refl 0)) (os1 _ _ _) ?_
  generalize F5.put u _ = F6 at hP5 ⊢
  clear hP hk hm hU5 hcut hVs
  have hkm := hkm (by omega)
  have hgd := hgd (by omega)
  have hbm : (bytesOf b)[5 + s]? = some (.int .u8 (b.getD (5 + s) 0).toNat) := byte_at (by omega)
  have hyl := (b.getD (5 + s) 0).toNat_lt
  generalize b.getD (5 + s) 0 = y at hkm hbm hyl
  have hwm : IntKind.i64.wrap (y.toNat : Int) = ((kMany tb : Nat) : Int) := by rw [hkm, IntKind.wrap_i64]; omega
  have hm255 : kMany tb ≤ 255 := by omega
  generalize kMany tb = m at *
  (conv => whnf)
  refine ⟨⟨by omega, by omega⟩, ?_⟩
  (conv => whnf)
  refine load_step (v := .int .u8 (y.toNat : Int)) ?_ ?_
  · show F6.cell? (ad.add (Int.toNat (IntKind.i64.wrap (5 + (s : Int))) * 1)) = _
    rw [hlo, Int.toNat_natCast, Nat.mul_one]
    exact (hr.mono hP5.ms.ext).cell hbm
  have hc1 : IntKind.i64.wrap (2 * IntKind.i64.wrap (y.toNat : Int)) = ((2 * m : Nat) : Int) := by rw [hwm, IntKind.wrap_i64]; omega
  have hc2 : IntKind.i64.wrap ((b.length : Int) - IntKind.i64.wrap (6 + (s : Int))) = ((b.length - (6 + s) : Nat) : Int) := by rw [hlo6, IntKind.wrap_i64]; omega
  (conv => whnf)
  refine cond_split (fun h => ?_) (fun h => ?_)
  · have h : decide (IntKind.i64.wrap (2 * IntKind.i64.wrap (y.toNat : Int)) > IntKind.i64.wrap ((b.length : Int) - IntKind.i64.wrap (6 + (s : Int)))) = true := h
    have h := of_decide_eq_true h
    rw [hc1, hc2] at h
    (conv => whnf)
    refine store_step q 0 _ _ rfl hP5.res rfl rfl (.inl (Nat.le_refl 0)) ozE ?_
    (conv => whnf)
    refine res_cells tab_ok rfl rfl (Heap.put_same _ _ _) rfl ?_
    (conv => whnf)
    exact no _ _ _ _ _ _ _ _ _ _ (fun e => by have := (hfo.1 e).2.2.1.1; omega) (hP5.ms.ext.put hq _)
  have hfit2 : 6 + s + 2 * m ≤ b.length := by
    have h : decide (IntKind.i64.wrap (2 * IntKind.i64.wrap (y.toNat : Int)) > IntKind.i64.wrap ((b.length : Int) - IntKind.i64.wrap (6 + (s : Int)))) = false := h
    have := of_decide_eq_false h
    rw [hc1, hc2] at this
    omega
  obtain ⟨at0, hat⟩ : ∃ z, IntKind.i64.wrap (6 + (s : Int)) = z := ⟨_, rfl⟩
  (conv => whnf)
  refine loop_slots [0, 2, 5, 8, 9, 10] (fun mm vs F' => ∃ (j : Nat) (T : Value), j + mm = m ∧ vs = [.slice (some ad) b.length c, .pointer (some ⟨q, 0, none⟩), .pointer (some ⟨u, 0, none⟩), .int .i64 ((6 + s : Nat) : Int), .int .i64 (m : Int), .int .i64 (j : Int)] ∧ EP F F' q u (x0.toNat : Int) n (.slice A1 bs.length c1) T bs ((keptL tb).take j)) m ⟨0, .slice none 0 0, by omega, by rw [← hlo6, ← hwm]; rfl, hP5⟩ ?_
  clear hP5
  rintro mm vs F7 ρ ⟨j, T, hjm, rfl, hP⟩
  (conv => whnf)
  refine cond_split (fun h => ?_) (fun h => ?_)
  · have hj : j < m := by have := of_decide_eq_true h; omega
    have hst := hkt j hj
    have hi : IntKind.i64.wrap (((6 + s : Nat) : Int) + IntKind.i64.wrap (2 * (j : Int))) = ((5 + s + (1 + 2 * j) : Nat) : Int) := by
      have : IntKind.i64.wrap (2 * (j : Int)) = 2 * (j : Int) := by rw [IntKind.wrap_i64]; omega
      rw [this, IntKind.wrap_i64]
      omega
    have hcall := hgi (5 + s + (1 + 2 * j)) (by omega) F7 (hr.mono hP.ms.ext)
    rw [← hi, ← hgd] at hcall
    have hll : ((keptL tb).take j).length ≤ 255 := by rw [List.length_take]; omega
    generalize getN tb (1 + 2 * j) 2 = w at hst hcall
    generalize (keptL tb).take j = cur at hst hP hll
    obtain ⟨B1, cc1, rfl, _, _⟩ := hP.mt.own.row
    (conv => whnf)
    refine call_of hcall ?_
    rintro v F7 ⟨rfl, rfl⟩
    (conv => whnf)
    refine load_blk hP.cells rfl rfl ?_
    (conv => whnf)
    refine new_step (.cells #[.int .i64 w] 3) rfl fun g hgn => ?_
    have hX := Ext.new hgn (.cells #[.int .i64 w] 3)
    have hG := Heap.put_same F7 g (.cells #[.int .i64 w] 3)
    replace hP := hP.mono hX
    generalize F7.put g _ = F8 at hG hP ⊢
    (conv => whnf)
    refine append_mine tab_ok (m := 1) (ys := [.int .i64 w]) (y := .slice (some ⟨g, 0, none⟩) 1 1) rfl rfl rfl rfl rfl ⟨_, rfl, fun k h => by cases h⟩ ⟨_, rfl, rfl⟩ (by decide) hP.mt ⟨rfl, .inl ⟨_, _, rfl, fun j v hj => ⟨_, rfl, by rw [add_plain, Heap.cell_at hG, Nat.zero_add, ← Array.getElem?_toList]; exact hj⟩⟩⟩ (fun v hv => by rw [List.mem_singleton.1 hv]; rfl) (by show 2 * (cur.length + 1) * 8 ≤ _; omega) fun T' F9 hM hk => ?_
    have hM' : Mine F F9 T' 3 1 (cur ++ [w]).length ((cur ++ [w]).map (.int .i64)) := by
      rw [List.length_append, List.map_append]; exact hM
    rw [← hst] at hM'
    obtain ⟨hU9, hP9⟩ := hP.setT hk hM'
    obtain ⟨B2, cc2, rfl, _, _⟩ := hM'.own.row
    (conv => whnf)
    refine store_step u 3 _ (evC (x0.toNat : Int) n (.slice A1 bs.length c1) (.slice B2 ((keptL tb).take (j + 1)).length cc2)) rfl hU9 rfl rfl (.inl (Nat.le_refl 0)) (os1 _ _ _) ?_
    (conv => whnf)
    refine ⟨mm - 1, by omega, j + 1, _, by omega, ?_, hP9⟩
    have hw : IntKind.i64.wrap ((j : Int) + 1) = ((j + 1 : Nat) : Int) := by rw [IntKind.wrap_i64]; omega
    rw [← hw]
    rfl
  · have hj : j = m := by have := of_decide_eq_false h; omega
    subst hj
    rw [show (keptL tb).take j = keptL tb by rw [← hkl, List.take_length]] at hP
    generalize keptL tb = ks at hev hP hkl
    obtain ⟨B1, cc1, rfl, _, hRT⟩ := hP.mt.own.row
    have hch := fun A c B cc G hg => rcheck (x0.toNat : Int) n bs ks A c B cc G hg (by omega)
    rw [← hev] at hch
    subst hev
    generalize checkB (⟨x0.toNat, n, bs, ks⟩ : ED) = okc at hch hfo
    have hN : IntKind.i64.wrap (((6 + s : Nat) : Int) + IntKind.i64.wrap (2 * (j : Int))) = (N : Int) := by
      have : IntKind.i64.wrap (2 * (j : Int)) = 2 * (j : Int) := by rw [IntKind.wrap_i64]; omega
      rw [this, IntKind.wrap_i64]
      omega
    (conv => whnf)
    refine draw_tree_at tab_ok (by kernel_rfl) [0, 5] (DT.row [0, 1, 2, 3, 4, 5, 6, 7, 8, 9] .nil) (by kernel_rfl) (F7.only u) (only_ext rfl) ?_
    (conv => whnf)
    refine ⟨⟨_, _, _, only_at hP.cells, rfl, Nat.le_refl 4, ?_⟩⟩
    (conv => whnf)
    refine ⟨⟨_, _, _, only_at hP.cells, rfl, Nat.le_refl 4, ?_⟩⟩
    (conv => whnf)
    refine call_of (hch A1 c1 B1 cc1 F7 hRT) ?_
    rintro v F8 ⟨rfl, hE8⟩
    replace hP8 := hP.mono hE8
    refine ⟨only_ext (by rw [hP8.cells, hP.cells]), ?_⟩
    (conv => whnf)
    refine store_step q 0 _ (evC (x0.toNat : Int) n (.slice A1 bs.length c1) (.slice B1 ks.length cc1)) rfl hP8.res rfl rfl (.inl (Nat.le_refl 0)) (os4 _ _ _ _ _ _ _ _) ?_
    have hM6 := mine_put hP8.ms hq hP8.res u8_event (evO (x0.toNat : Int) n (.slice A1 bs.length c1) (.slice B1 ks.length cc1))
    have hT6 := mine_put hP8.mt hq hP8.res int_event (evO (x0.toNat : Int) n (.slice A1 bs.length c1) (.slice B1 ks.length cc1))
    have hQ6 := Heap.put_same F8 q (evO (x0.toNat : Int) n (.slice A1 bs.length c1) (.slice B1 ks.length cc1))
    have hU6 : (F8.put q (evO (x0.toNat : Int) n (.slice A1 bs.length c1) (.slice B1 ks.length cc1))) u = F8 u := Heap.put_other _ _ hqu.symm
    refine ⟨only_ext (by rw [hU6, hP8.cells, hP.cells]), ?_⟩
    generalize F8.put q _ = F9 at hM6 hT6 hQ6 ⊢
    (conv => whnf)
    refine res_cells tab_ok rfl rfl hQ6 rfl ?_
    cases okc with
    | false =>
      (conv => whnf)
      exact no _ _ _ _ _ _ _ _ _ _ (fun e => by cases (hfo.1 e).2.2.2) hM6.ext
    | true =>
      have hok := hfo.2 ⟨by omega, by omega, ⟨by omega, by omega⟩, rfl⟩
      obtain ⟨A', c', hs', hc', hRS⟩ := hM6.own.row
      injection hs' with e1 e2 e3
      subst e1 e3
      obtain ⟨B', cc', hs', _, hRT⟩ := hT6.own.row
      injection hs' with e1 e2 e3
      subst e1 e3
      have hy := yes hok F9 A1 c1 B1 cc1 ⟨hRS, hRT, hc'⟩ ⟨fun a h => hM6.fresh _ (by have h : A1 = some a := h; rw [h]; rfl), fun a h => hT6.fresh _ (by have h : B1 = some a := h; rw [h]; rfl)⟩ hM6.ext
      rw [← hN] at hy
      (conv => whnf)
      exact hy
end Go.Proofs.Ytkahpaipciooiad.Al

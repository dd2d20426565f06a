/- The contract of the reader's lines, over what is known of memory. -/
import Derived.Test.YtkahpaipciooiacCmdRd
namespace Go.Proofs.Ytkahpaipciooiac.Al
open Go Go.Al Go.Proofs Go.RowKit
set_option maxHeartbeats 8000000
set_option maxRecDepth 100000
set_option linter.unusedVariables false
set_option linter.unusedSimpArgs false
def lnA (b : List UInt8) (i : Nat) : Nat := rdA b (rdA b (rdA b (rdA b i 2) 2) 2) 8
def lnSh (b : List UInt8) (i : Nat) (sh : Bool) : Bool := rdS b (rdA b (rdA b (rdA b i 2) 2) 2) 8 (rdS b (rdA b (rdA b i 2) 2) 2 (rdS b (rdA b i 2) 2 (rdS b i 2 sh)))
def lnAt (b : List UInt8) (i : Nat) : LD := ⟨getN b i 2, getN b (rdA b i 2) 2, getN b (rdA b (rdA b i 2) 2) 2, getN b (rdA b (rdA b (rdA b i 2) 2) 2) 8⟩
structure LS where
  i : Nat
  sh : Bool
  out : List LD
def lnGo (b : List UInt8) : Nat → LS → LS
  | 0, s => s
  | n + 1, s => bif s.sh then s else lnGo b n ⟨lnA b s.i, lnSh b s.i s.sh, s.out ++ [lnAt b s.i]⟩
def lnS (b : List UInt8) (i : Nat) (sh : Bool) : LS := lnGo b (getN b i 1).toNat ⟨rdA b i 1, rdS b i 1 sh, []⟩
theorem getN1 (b : List UInt8) (i : Nat) : getN b i 1 = (((getN b i 1).toNat : Nat) : Int) ∧ (getN b i 1).toNat ≤ 255 := by
  unfold getN
  split
  · have hl : ((b.drop i).take 1).length ≤ 4 := by rw [List.length_take]; omega
    have h1 := gB_lt ((b.drop i).take 1)
    have h2 : ((b.drop i).take 1).length ≤ 1 := by rw [List.length_take]; omega
    have h3 : 256 ^ ((b.drop i).take 1).length ≤ 256 ^ 1 := Nat.pow_le_pow_right (by decide) h2
    rw [getV_nat hl]
    omega
  · omega
theorem line_reader : (59 : Nat) ≠ 62 := by decide
theorem rdLines (b : List UInt8) (A : Option Addr) (c : Nat) (F0 F : Heap) (r i : Nat) (sh : Bool) (hr : RowAt F0 A (bytesOf b)) (hd : DS F0 F r (.slice A b.length c) b i sh) (hl : b.length ≤ 100000) (hc : b.length ≤ c) :
    FnK Try.prog 43 #[.pointer (some ⟨r, 0, none⟩)] F (fun v F' => Mine F0 F' v 59 4 (lnS b i sh).out.length (linesV (lnS b i sh).out) ∧ DS F0 F' r (.slice A b.length c) b (lnS b i sh).i (lnS b i sh).sh) := by
  have hR1 := rdNum 1 (.inl rfl) b A c F0 F r i sh hr hd hl hc
  obtain ⟨hn1, hn2⟩ := getN1 b i
  have hfin : lnS b i sh = lnGo b (getN b i 1).toNat ⟨rdA b i 1, rdS b i 1 sh, []⟩ := rfl
  rw [hn1] at hR1
  generalize (getN b i 1).toNat = n0 at hR1 hn2 hfin
  generalize lnS b i sh = fin at hfin ⊢
  (refine fn_walk tab_ok Try.func43 rfl rfl rfl rfl ?_; (conv => whnf))
  refine call_of hR1 ?_
  rintro v F1 ⟨rfl, hd1, _⟩
  (conv => whnf)
  refine loop_slots [0, 3, 4] (fun mm vs F' => ∃ (i' : Nat) (sh' : Bool) (out : List LD) (S : Value), vs = [.pointer (some ⟨r, 0, none⟩), S, .int .i64 (mm : Int)] ∧ mm + out.length ≤ 255 ∧ lnGo b mm ⟨i', sh', out⟩ = fin ∧ Mine F0 F' S 59 4 out.length (linesV out) ∧ DS F0 F' r (.slice A b.length c) b i' sh') n0 ⟨_, _, [], _, rfl, by simpa using hn2, hfin.symm, Mine.nil _ _ _ _ hd1.ext, hd1⟩ ?_
  clear hd1 hR1 hd hn1 hn2 hfin
  rintro mm vs F2 ρ ⟨i', sh', out, S, rfl, hlen, hgo, hm, hd⟩
  have fine : (mm = 0 ∨ sh' = true) → Mine F0 F2 S 59 4 fin.out.length (linesV fin.out) ∧ DS F0 F2 r (.slice A b.length c) b fin.i fin.sh := by
    intro h
    have : lnGo b mm ⟨i', sh', out⟩ = ⟨i', sh', out⟩ := by
      rcases h with rfl | rfl
      · rfl
      · cases mm <;> rfl
    rw [this] at hgo
    subst hgo
    exact ⟨hm, hd⟩
  (conv => whnf)
  refine cond_split (fun h => ?_) (fun h => ?_)
  case refine_2 =>
    have h : decide ((mm : Int) > 0) = false := h
    have h := of_decide_eq_false h
    (conv => whnf)
    exact fine (.inl (by omega))
  have h : decide ((mm : Int) > 0) = true := h
  have h := of_decide_eq_true h
  obtain ⟨n, rfl⟩ : ∃ n, mm = n + 1 := ⟨mm - 1, by omega⟩
  (conv => whnf)
  refine load_blk hd.cell rfl rfl ?_
  (conv => whnf)
  cases sh' with
  | true =>
    (conv => whnf)
    exact fine (.inr rfl)
  | false =>
  clear fine
  have hstep : lnGo b n ⟨lnA b i', lnSh b i' false, out ++ [lnAt b i']⟩ = fin := hgo
  clear hgo
  have hSr : ∀ {G : Heap} {n : Nat} {vs : List Value} {T : Value} {i : Nat} {s : Bool}, Mine F0 G T 59 4 n vs → DS F0 G r (.slice A b.length c) b i s → blk T ≠ some r := fun h1 h2 => h1.own.blk_ne h2.cell line_reader
  have n1 := rdNum 2 (.inr (.inl rfl)) b A c F0 F2 r i' false hr hd hl hc
  have hcell : lnAt b i' = ⟨getN b i' 2, getN b (rdA b i' 2) 2, getN b (rdA b (rdA b i' 2) 2) 2, getN b (rdA b (rdA b (rdA b i' 2) 2) 2) 8⟩ := rfl
  generalize hw1 : getN b i' 2 = w1 at n1 hcell
  (conv => whnf)
  refine call_of n1 ?_
  rintro v F3 ⟨rfl, hd3, hk3⟩
  have hm3 := hm.keeps (hSr hm hd) hk3 hd.new
  have n2 := rdNum 2 (.inr (.inl rfl)) b A c F0 F3 r _ _ hr hd3 hl hc
  generalize hw2 : getN b (rdA b i' 2) 2 = w2 at n2 hcell
  (conv => whnf)
  refine call_of n2 ?_
  rintro v F4 ⟨rfl, hd4, hk4⟩
  have hm4 := hm3.keeps (hSr hm3 hd3) hk4 hd.new
  have n3 := rdNum 2 (.inr (.inl rfl)) b A c F0 F4 r _ _ hr hd4 hl hc
  generalize hw3 : getN b (rdA b (rdA b i' 2) 2) 2 = w3 at n3 hcell
  (conv => whnf)
  refine call_of n3 ?_
  rintro v F5 ⟨rfl, hd5, hk5⟩
  have hm5 := hm4.keeps (hSr hm4 hd4) hk5 hd.new
  (conv => whnf)
  refine new_step (lineO 0 0 0 0) rfl fun u hu => ?_
  have hU := Heap.put_same F5 u (lineO 0 0 0 0)
  have hEu : ∀ o, Ext F5 ((F5.put u (lineO 0 0 0 0)).put u o) := fun o => ext_put_put hu
  have hur : u ≠ r := fun e => by rw [e, hd5.cell] at hu; cases hu
  have hu0 : F0 u = none := by
    cases e : F0 u with
    | none => rfl
    | some o => rw [hd5.ext _ _ e] at hu; cases hu
  generalize F5.put u _ = F6 at hU hEu ⊢
  have o1 : ∀ v ∈ [Value.int .i64 w1, .int .i64 w2, .int .i64 w3, .int .i64 0], v.oneCell' = true := by simp [Value.oneCell']
  (conv => whnf)
  refine store_step u 0 _ #[.int .i64 w1, .int .i64 w2, .int .i64 w3, .int .i64 0] rfl hU rfl rfl (.inl (Nat.le_refl 0)) o1 ?_
  have hU7 := Heap.put_same F6 u (lineO w1 w2 w3 0)
  have hd7 := hd5.mono (hEu (lineO w1 w2 w3 0))
  have hm7 := hm5.mono (hEu (lineO w1 w2 w3 0))
  have hbu : blk S ≠ some u := fun e => by
    rcases hm5.own.2 with ⟨h1, _⟩ | ⟨b', c', cs', h1, ⟨fz', hb, _⟩, _⟩
    · subst h1; cases e
    · subst h1
      obtain rfl : b' = u := Option.some.inj e
      rw [hb] at hu; cases hu
  generalize F6.put u _ = F7 at hU7 hd7 hm7 ⊢
  refine short [0, 3, 4, 5] [.pointer (some ⟨r, 0, none⟩), S, .int .i64 ((n + 1 : Nat) : Int), .pointer (some ⟨u, 0, none⟩)] rfl fun ρ => ?_
  have n4 := rdNum 8 (.inr (.inr (.inr rfl))) b A c F0 F7 r _ _ hr hd7 hl hc
  generalize hw4 : getN b (rdA b (rdA b (rdA b i' 2) 2) 2) 8 = w4 at n4 hcell
  (conv => whnf)
  refine call_of n4 ?_
  rintro v F8 ⟨rfl, hd8, hk8⟩
  have hm8 := hm7.keeps (hSr hm7 hd7) hk8 hd.new
  have hU8 := hk8 _ _ hU7 (fun e => hur (Option.some.inj e).symm)
  have o2 : ∀ v ∈ [Value.int .i64 w4], v.oneCell' = true := by simp [Value.oneCell']
  (conv => whnf)
  refine store_step u 3 _ #[.int .i64 w1, .int .i64 w2, .int .i64 w3, .int .i64 w4] rfl hU8 rfl rfl (.inl (Nat.le_refl 0)) o2 ?_
  have hU9 := Heap.put_same F8 u (lineO w1 w2 w3 w4)
  have hd9 : DS F0 (F8.put u (lineO w1 w2 w3 w4)) r (.slice A b.length c) b (lnA b i') (lnSh b i' false) := ⟨by rw [Heap.put_other _ _ hur.symm]; exact hd8.cell, hd8.new, hd8.ext.put hu0 _, hd8.le⟩
  have hm9 := hm8.put hu0 hbu (lineO w1 w2 w3 w4)
  generalize F8.put u _ = F9 at hU9 hd9 hm9 ⊢
  clear hd8 hm8 hk8 hU8 hd7 hm7 hU7 hd5 hm5 hk5 hd4 hm4 hk4 hd3 hm3 hk3 n1 n2 n3 n4 hEu hU
  refine short [0, 3, 4, 5] [.pointer (some ⟨r, 0, none⟩), S, .int .i64 ((n + 1 : Nat) : Int), .pointer (some ⟨u, 0, none⟩)] rfl fun ρ => ?_
  (conv => whnf)
  refine ⟨⟨_, _, _, hU9, rfl, Nat.le_refl 4, ?_⟩⟩
  (conv => whnf)
  refine new_step (lineO w1 w2 w3 w4) rfl fun g hg => ?_
  have hXg := Ext.new hg (lineO w1 w2 w3 w4)
  have hG := Heap.put_same F9 g (lineO w1 w2 w3 w4)
  have hd10 := hd9.mono hXg
  have hm10 := hm9.mono hXg
  generalize F9.put g _ = F10 at hG hd10 hm10 ⊢
  (conv => whnf)
  refine append_mine tab_ok (m := 1) (ys := lineV ⟨w1, w2, w3, w4⟩) (y := .slice (some ⟨g, 0, none⟩) 1 1) rfl rfl rfl rfl rfl ⟨_, rfl, fun k h => by cases h⟩ ⟨_, rfl, rfl⟩ (by decide) hm10 ⟨rfl, .inl ⟨_, _, rfl, fun j v hj => ⟨_, rfl, by rw [add_plain, Heap.cell_at hG, Nat.zero_add, ← Array.getElem?_toList]; exact hj⟩⟩⟩ (by simp [lineV, Value.oneCell']) (by show 2 * (out.length + 1) * 32 ≤ _; omega) fun s' F11 hm11 hk11 => ?_
  have hd11 : DS F0 F11 r (.slice A b.length c) b (lnA b i') (lnSh b i' false) := ⟨hk11 _ _ hd10.cell (hSr hm10 hd10), hd10.new, hm11.ext, hd10.le⟩
  (conv => whnf)
  refine ⟨n, by omega, _, _, out ++ [lnAt b i'], s', ?_, ?_, hstep, ?_, hd11⟩
  · have hw : IntKind.i64.wrap (((n + 1 : Nat) : Int) - 1) = (n : Int) := by rw [IntKind.wrap_i64]; omega
    rw [← hw]
    rfl
  · rw [List.length_append, List.length_singleton]; omega
  · rw [hcell, List.length_append, List.length_singleton, show linesV (out ++ [⟨w1, w2, w3, w4⟩]) = linesV out ++ lineV ⟨w1, w2, w3, w4⟩ by simp [linesV]]
    exact hm11
end Go.Proofs.Ytkahpaipciooiac.Al

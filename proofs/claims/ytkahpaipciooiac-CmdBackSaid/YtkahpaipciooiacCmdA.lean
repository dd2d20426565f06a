/- What a command is; which kinds there are; whether numbers have so many bytes: the contracts over what is known of memory. -/
import Derived.Test.YtkahpaipciooiacGetG
import Derived.Test.YtkahpaipciooiacAlRows
import Derived.Test.YtkahpaipciooiacAlFork
namespace Go.Proofs.Ytkahpaipciooiac.Al
open Go Go.Al Go.Proofs Go.RowKit
set_option maxHeartbeats 8000000
set_option maxRecDepth 100000
set_option linter.unusedVariables false
set_option linter.unusedSimpArgs false
structure LD where
  f : Int
  o : Int
  n : Int
  a : Int
structure CD where
  k : Int
  y : Int
  x : Int
  f : Int
  o : Int
  n : Int
  p : Int
  d : Int
  l : Int
  a : Int
  ab : Bool
  nm : List UInt8
  ls : List LD
def lineV (l : LD) : List Value := [.int .i64 l.f, .int .i64 l.o, .int .i64 l.n, .int .i64 l.a]
def linesV (ls : List LD) : List Value := ls.flatMap lineV
abbrev cmdC (k y x f o n p d l a : Int) (ab : Bool) (nm : ByteArray) (S : Value) : Array Value :=
  #[.int .i64 k, .int .i64 y, .int .i64 x, .int .i64 f, .int .i64 o, .int .i64 n, .int .i64 p, .int .i64 d, .int .i64 l, .int .i64 a, .bool ab, .string nm, S]
theorem linesV_len (ls : List LD) : (linesV ls).length = ls.length * 4 := by
  induction ls with
  | nil => rfl
  | cons l ls ih =>
    unfold linesV at ih ⊢
    rw [List.flatMap_cons, List.length_append, ih, List.length_cons]
    show 4 + _ = _
    omega
theorem linesV_at : ∀ (ls : List LD) (j : Nat) (x : LD), ls[j]? = some x → ((linesV ls).drop (j * 4)).take 4 = lineV x := by
  intro ls
  induction ls with
  | nil => intro j x h; simp at h
  | cons l ls ih =>
    intro j x h
    unfold linesV at ih ⊢
    rw [List.flatMap_cons]
    cases j with
    | zero =>
      obtain rfl : l = x := by simpa using h
      rfl
    | succ j =>
      rw [show (j + 1) * 4 = 4 + j * 4 by omega, ← List.drop_drop, List.drop_left' (by rfl)]
      exact ih j x (by simpa using h)
def knownB (k : Int) : Bool := decide (1 ≤ k) && decide (k ≤ 20)
def asksB (k : Int) : Bool := decide (14 ≤ k) && decide (k ≤ 20)
theorem known (k : Int) (F : Heap) : FnK Try.prog 26 #[.int .i64 k] F (fun v F' => v = .bool (knownB k) ∧ F' = F) := by
  unfold knownB
  (refine fn_walk tab_ok Try.func26 rfl rfl rfl rfl ?_; (conv => whnf))
  refine cond_split (fun h => ?_) (fun h => ?_)
  · have h : decide (1 ≤ k) = true := h
    (conv => whnf)
    exact ⟨by rw [h]; rfl, rfl⟩
  · have h : decide (1 ≤ k) = false := h
    (conv => whnf)
    exact ⟨by rw [h]; rfl, rfl⟩
theorem rknown (k : Int) (F : Heap) : FnK Try.prog 27 #[.int .i64 k] F (fun v F' => v = .bool (knownB k) ∧ F' = F) := by
  unfold knownB
  (refine fn_walk tab_ok Try.func27 rfl rfl rfl rfl ?_; (conv => whnf))
  refine cond_split (fun h => ?_) (fun h => ?_)
  · have h : decide (1 ≤ k) = true := h
    (conv => whnf)
    exact ⟨by rw [h]; rfl, rfl⟩
  · have h : decide (1 ≤ k) = false := h
    (conv => whnf)
    exact ⟨by rw [h]; rfl, rfl⟩
theorem asks (k : Int) (F : Heap) : FnK Try.prog 28 #[.int .i64 k] F (fun v F' => v = .bool (asksB k) ∧ F' = F) := by
  have hk := known k F
  have hs : asksB k = (knownB k && decide (k ≥ 14)) := by
    unfold asksB knownB
    rw [Bool.eq_iff_iff]
    simp only [Bool.and_eq_true, decide_eq_true_eq]
    omega
  generalize knownB k = b at hk hs
  (refine fn_walk tab_ok Try.func28 rfl rfl rfl rfl ?_; (conv => whnf))
  refine call_of hk ?_
  rintro v _ ⟨rfl, rfl⟩
  cases b with
  | false =>
    (conv => whnf)
    exact ⟨congrArg Value.bool hs.symm, rfl⟩
  | true =>
    (conv => whnf)
    exact ⟨congrArg Value.bool hs.symm, rfl⟩
theorem rasks (k : Int) (F : Heap) : FnK Try.prog 29 #[.int .i64 k] F (fun v F' => v = .bool (asksB k) ∧ F' = F) := by
  unfold asksB
  (refine fn_walk tab_ok Try.func29 rfl rfl rfl rfl ?_; (conv => whnf))
  refine cond_split (fun h => ?_) (fun h => ?_)
  · have h : decide (14 ≤ k) = true := h
    (conv => whnf)
    exact ⟨by rw [h]; rfl, rfl⟩
  · have h : decide (14 ≤ k) = false := h
    (conv => whnf)
    exact ⟨by rw [h]; rfl, rfl⟩
theorem fit1 (m : Nat) (hm : Siz m) (n : Int) (b : Nat) (F : Heap) (hb : F b = some (.cells #[.int .i64 m] 3)) : FnK Try.prog 65 #[.int .i64 n, .pointer (some ⟨b, 0, none⟩)] F (fun v F' => v = .bool (!inM m n) ∧ F' = F) := by
  have hR := rightG m hm n
  generalize inM m n = z at hR
  (refine fn_walk tab_ok Try.func65 rfl rfl rfl rfl ?_; (conv => whnf))
  refine load_blk hb rfl rfl ?_
  (conv => whnf)
  refine call_of (hR F) ?_
  rintro v _ ⟨rfl, rfl⟩
  (conv => whnf)
  exact ⟨rfl, rfl⟩
theorem indexF (m : Nat) (hm : Siz m) (b : Nat) (l : List Int) (A : Option Addr) (c : Nat) (F : Heap) (hr : RowAt F A (l.map (.int .i64))) (hl : l.length ≤ 100000) (hb : F b = some (.cells #[.int .i64 m] 3)) :
    FnK Try.prog 66 #[.slice A l.length c, .func (.func 65) #[] #[.pointer (some ⟨b, 0, none⟩)]] F (fun v F' => (∃ r : Int, v = .int .i64 r ∧ decide (r ≥ 0) = !l.all (inM m)) ∧ F' = F) := by
  (refine fn_walk tab_ok Try.func66 rfl rfl rfl rfl ?_; (conv => whnf))
  refine loop_slots [0, 1, 7, 8] (fun k vs F' => ∃ j : Nat, j + k = l.length ∧ vs = [.slice A l.length c, .func (.func 65) #[] #[.pointer (some ⟨b, 0, none⟩)], .int .i64 (l.length : Int), .int .i64 (j : Int)] ∧ (l.take j).all (inM m) = true ∧ F' = F) l.length ⟨0, by omega, rfl, rfl, rfl⟩ ?_
  rintro k vs F2 ρ ⟨j, hjk, rfl, hall, rfl⟩
  (conv => whnf)
  refine cond_split (fun h => ?_) (fun h => ?_)
  · have hj : j < l.length := by have := of_decide_eq_true h; omega
    obtain ⟨ad, rfl⟩ := hr.some (by simp; omega)
    have hn : l[j]? = some l[j] := List.getElem?_eq_getElem hj
    have hf := fit1 m hm l[j] b F2 hb
    have hz : (l.take (j + 1)).all (inM m) = inM m l[j] := by
      rw [List.take_add_one, hn, List.all_append, hall]
      simp
    have hz2 : inM m l[j] = false → l.all (inM m) = false := fun e => by
      rw [← Bool.not_eq_true, List.all_eq_true]
      intro h
      rw [h _ (List.getElem_mem hj)] at e
      cases e
    generalize inM m l[j] = z at hf hz hz2
    (conv => whnf)
    refine ⟨⟨by omega, by omega⟩, ?_⟩
    (conv => whnf)
    refine load_step (v := .int .i64 l[j]) ?_ ?_
    · show F2.cell? (ad.add (Int.toNat (j : Int) * 1)) = _
      rw [Int.toNat_natCast, Nat.mul_one]
      exact hr.cell (by simp [hn])
    (conv => whnf)
    refine call_of hf ?_
    rintro v _ ⟨rfl, rfl⟩
    cases z with
    | false =>
      (conv => whnf)
      refine ⟨⟨(j : Int), rfl, ?_⟩, rfl⟩
      rw [hz2 rfl]
      simp
    | true =>
      (conv => whnf)
      refine ⟨k - 1, by omega, j + 1, by omega, ?_, hz, rfl⟩
      have hw : IntKind.i64.wrap ((j : Int) + 1) = ((j + 1 : Nat) : Int) := by rw [IntKind.wrap_i64]; omega
      rw [← hw]
      rfl
  · have hj : j = l.length := by have := of_decide_eq_false h; omega
    subst hj
    rw [List.take_length] at hall
    (conv => whnf)
    exact ⟨⟨-1, rfl, by rw [hall]; rfl⟩, rfl⟩
theorem containsF (m : Nat) (hm : Siz m) (b : Nat) (l : List Int) (A : Option Addr) (c : Nat) (F : Heap) (hr : RowAt F A (l.map (.int .i64))) (hl : l.length ≤ 100000) (hb : F b = some (.cells #[.int .i64 m] 3)) :
    FnK Try.prog 64 #[.slice A l.length c, .func (.func 65) #[] #[.pointer (some ⟨b, 0, none⟩)]] F (fun v F' => v = .bool (!l.all (inM m)) ∧ F' = F) := by
  have hi := indexF m hm b l A c F hr hl hb
  (refine fn_walk tab_ok Try.func64 rfl rfl rfl rfl ?_; (conv => whnf))
  refine call_of hi ?_
  rintro v _ ⟨⟨r, rfl, hr'⟩, rfl⟩
  (conv => whnf)
  exact ⟨congrArg Value.bool hr', rfl⟩
theorem fits (m : Nat) (hm : Siz m) (l : List Int) (A : Option Addr) (c : Nat) (F : Heap) (hr : RowAt F A (l.map (.int .i64))) (hl : l.length ≤ 100000) :
    FnK Try.prog 61 #[.int .i64 m, .slice A l.length c] F (fun v F' => v = .bool (l.all (inM m)) ∧ Ext F F') := by
  have hi := fun b F hr hb => containsF m hm b l A c F hr hl hb
  generalize l.all (inM m) = z at hi
  (refine fn_walk tab_ok Try.func61 rfl rfl rfl rfl ?_; (conv => whnf))
  refine new_step (.cells #[.int .i64 m] 3) rfl fun b hb => ?_
  (conv => whnf)
  refine call_of (hi b _ (hr.mono (Ext.new hb _)) (Heap.put_same _ _ _)) ?_
  rintro v _ ⟨rfl, rfl⟩
  (conv => whnf)
  exact ⟨congrArg Value.bool (Bool.not_not z), Ext.new hb _⟩
theorem rright (m : Nat) (hm : Siz m) (l : List Int) (A : Option Addr) (c : Nat) (F : Heap) (hr : RowAt F A (l.map (.int .i64))) (hl : l.length ≤ 100000) :
    FnK Try.prog 62 #[.slice A l.length c, .int .i64 m] F (fun v F' => v = .bool (l.all (inM m)) ∧ F' = F) := by
  (refine fn_walk tab_ok Try.func62 rfl rfl rfl rfl ?_; (conv => whnf))
  refine loop_slots [0, 1, 5] (fun k vs F' => ∃ j : Nat, j + k = l.length ∧ vs = [.slice A l.length c, .int .i64 m, .int .i64 (j : Int)] ∧ (l.take j).all (inM m) = true ∧ F' = F) l.length ⟨0, by omega, rfl, rfl, rfl⟩ ?_
  rintro k vs F2 ρ ⟨j, hjk, rfl, hall, rfl⟩
  (conv => whnf)
  refine cond_split (fun h => ?_) (fun h => ?_)
  · have hj : j < l.length := by have := of_decide_eq_true h; omega
    obtain ⟨ad, rfl⟩ := hr.some (by simp; omega)
    have hn : l[j]? = some l[j] := List.getElem?_eq_getElem hj
    have hf := rrightG m hm l[j] F2
    have hz : (l.take (j + 1)).all (inM m) = inM m l[j] := by
      rw [List.take_add_one, hn, List.all_append, hall]
      simp
    have hz2 : inM m l[j] = false → l.all (inM m) = false := fun e => by
      rw [← Bool.not_eq_true, List.all_eq_true]
      intro h
      rw [h _ (List.getElem_mem hj)] at e
      cases e
    generalize inM m l[j] = z at hf hz hz2
    (conv => whnf)
    refine ⟨⟨by omega, by omega⟩, ?_⟩
    (conv => whnf)
    refine load_step (v := .int .i64 l[j]) ?_ ?_
    · show F2.cell? (ad.add (Int.toNat (j : Int) * 1)) = _
      rw [Int.toNat_natCast, Nat.mul_one]
      exact hr.cell (by simp [hn])
    (conv => whnf)
    refine call_of hf ?_
    rintro v _ ⟨rfl, rfl⟩
    cases z with
    | false =>
      have := hz2 rfl
      (conv => whnf)
      exact ⟨congrArg Value.bool this.symm, rfl⟩
    | true =>
      (conv => whnf)
      refine ⟨k - 1, by omega, j + 1, by omega, ?_, hz, rfl⟩
      have hw : IntKind.i64.wrap ((j : Int) + 1) = ((j + 1 : Nat) : Int) := by rw [IntKind.wrap_i64]; omega
      rw [← hw]
      rfl
  · have hj : j = l.length := by have := of_decide_eq_false h; omega
    subst hj
    rw [List.take_length] at hall
    (conv => whnf)
    exact ⟨congrArg Value.bool hall.symm, rfl⟩
end Go.Proofs.Ytkahpaipciooiac.Al

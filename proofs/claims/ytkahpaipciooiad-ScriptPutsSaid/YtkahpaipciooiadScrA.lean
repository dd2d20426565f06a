/- What an event is; script.Check and its reference: the contracts over what is known of memory. -/
import Derived.Test.YtkahpaipciooiadConcat
import Derived.Test.YtkahpaipciooiadGetG
import Derived.Test.YtkahpaipciooiadBEq
import Derived.Test.YtkahpaipciooiadAlFork
namespace Go.Proofs.Ytkahpaipciooiad.Al
open Go Go.Al Go.Proofs Go.RowKit
set_option maxHeartbeats 8000000
set_option maxRecDepth 100000
set_option linter.unusedVariables false
set_option linter.unusedSimpArgs false
structure ED where
  k : Int
  n : Int
  bs : List UInt8
  ks : List Int
def placeB (n : Int) : Bool := decide (0 ≤ n) && decide (n ≤ 65535)
def aloneB (k n : Int) (lb lk : Nat) : Bool := bif k == 1 then n == 0 && (lk : Int) == 0 else bif k == 2 then (lb : Int) == 0 && (lk : Int) == 0 else bif k == 3 then n == 0 && (lb : Int) == 0 else false
def checkB (e : ED) : Bool := placeB e.n && (decide (e.bs.length ≤ 4000) && (decide (e.ks.length ≤ 200) && (aloneB e.k e.n e.bs.length e.ks.length && e.ks.all placeB)))
abbrev evC (k n : Int) (S T : Value) : Array Value := #[.int .i64 k, .int .i64 n, S, T]
abbrev evO (k n : Int) (S T : Value) : Obj := .cells (evC k n S T) 47
theorem checkB_iff (e : ED) : checkB e = true ↔ placeB e.n = true ∧ e.bs.length ≤ 4000 ∧ e.ks.length ≤ 200 ∧ aloneB e.k e.n e.bs.length e.ks.length = true ∧ e.ks.all placeB = true := by
  unfold checkB
  simp only [Bool.and_eq_true, decide_eq_true_eq]
theorem place (n : Int) (F : Heap) : FnK Try.prog 54 #[.int .i64 n] F (fun v F' => v = .bool (placeB n) ∧ F' = F) := by
  unfold placeB
  (refine fn_walk tab_ok Try.func54 rfl rfl rfl rfl ?_; (conv => whnf))
  refine cond_split (fun h => ?_) (fun h => ?_)
  · have h : decide (n ≥ 0) = true := h
    (conv => whnf)
    exact ⟨by rw [show decide (0 ≤ n) = true from h]; rfl, rfl⟩
  · have h : decide (n ≥ 0) = false := h
    (conv => whnf)
    exact ⟨by rw [show decide (0 ≤ n) = false from h]; rfl, rfl⟩
theorem fit1 (n : Int) (F : Heap) : FnK Try.prog 57 #[.int .i64 n] F (fun v F' => v = .bool (!placeB n) ∧ F' = F) := by
  have hp := place n F
  generalize placeB n = z at hp
  (refine fn_walk tab_ok Try.func57 rfl rfl rfl rfl ?_; (conv => whnf))
  refine call_of hp ?_
  rintro v _ ⟨rfl, rfl⟩
  (conv => whnf)
  exact ⟨rfl, rfl⟩
theorem indexF (l : List Int) (A : Option Addr) (c : Nat) (F : Heap) (hr : RowAt F A (l.map (.int .i64))) (hl : l.length ≤ 100000) :
    FnK Try.prog 71 #[.slice A l.length c, .func (.func 57) #[] #[]] F (fun v F' => (∃ r : Int, v = .int .i64 r ∧ decide (r ≥ 0) = !l.all placeB) ∧ F' = F) := by
  (refine fn_walk tab_ok Try.func71 rfl rfl rfl rfl ?_; (conv => whnf))
  refine loop_slots [0, 1, 7, 8] (fun k vs F2 => ∃ j : Nat, j + k = l.length ∧ vs = [.slice A l.length c, .func (.func 57) #[] #[], .int .i64 (l.length : Int), .int .i64 (j : Int)] ∧ (l.take j).all placeB = true ∧ F2 = F) l.length ⟨0, by omega, rfl, rfl, rfl⟩ ?_
  rintro k vs F2 ρ ⟨j, hjk, rfl, hall, rfl⟩
  (conv => whnf)
  refine cond_split (fun h => ?_) (fun h => ?_)
  · have hj : j < l.length := by have := of_decide_eq_true h; omega
    obtain ⟨ad, rfl⟩ := hr.some (by simp; omega)
    have hx : l[j]? = some l[j] := List.getElem?_eq_getElem hj
    (conv => whnf)
    refine ⟨⟨by omega, by omega⟩, ?_⟩
    (conv => whnf)
    refine load_step (v := .int .i64 l[j]) ?_ ?_
    · show F2.cell? (ad.add (Int.toNat (j : Int) * 1)) = _
      rw [Int.toNat_natCast, Nat.mul_one]
      exact hr.cell (by simp [hx])
    (conv => whnf)
    have hf := fit1 l[j] F2
    have hstep : (l.take (j + 1)).all placeB = ((l.take j).all placeB && placeB l[j]) := by
      rw [List.take_add_one, hx, Option.toList_some, List.all_append]
      simp
    have hex : placeB l[j] = false → l.all placeB = false := fun e => by
      rw [List.all_eq_false]
      exact ⟨l[j], List.getElem_mem hj, by rw [e]; decide⟩
    generalize placeB l[j] = z at hf hstep hex
    refine call_of hf ?_
    rintro v _ ⟨rfl, rfl⟩
    cases z with
    | true =>
      (conv => whnf)
      refine ⟨k - 1, by omega, j + 1, by omega, ?_, by rw [hstep, hall]; rfl, rfl⟩
      have hw : IntKind.i64.wrap ((j : Int) + 1) = ((j + 1 : Nat) : Int) := by rw [IntKind.wrap_i64]; omega
      rw [← hw]
      rfl
    | false =>
      (conv => whnf)
      exact ⟨⟨_, rfl, by rw [hex rfl]; simp⟩, rfl⟩
  · have hj : j = l.length := by have := of_decide_eq_false h; omega
    subst hj
    rw [List.take_length] at hall
    (conv => whnf)
    exact ⟨⟨_, rfl, by rw [hall]; rfl⟩, rfl⟩
theorem containsF (l : List Int) (A : Option Addr) (c : Nat) (F : Heap) (hr : RowAt F A (l.map (.int .i64))) (hl : l.length ≤ 100000) :
    FnK Try.prog 56 #[.slice A l.length c, .func (.func 57) #[] #[]] F (fun v F' => v = .bool (!l.all placeB) ∧ F' = F) := by
  have hi := indexF l A c F hr hl
  (refine fn_walk tab_ok Try.func56 rfl rfl rfl rfl ?_; (conv => whnf))
  refine call_of hi ?_
  rintro v F1 ⟨⟨r, rfl, hr'⟩, rfl⟩
  (conv => whnf)
  exact ⟨congrArg Value.bool hr', rfl⟩
theorem alone (k n : Int) (A : Option Addr) (lb c : Nat) (B : Option Addr) (lk cc : Nat) (F : Heap) :
    FnK Try.prog 55 #[.agg (evC k n (.slice A lb c) (.slice B lk cc))] F (fun v F' => v = .bool (aloneB k n lb lk) ∧ Ext F F') := by
  have hal : aloneB k n lb lk = (bif k == 1 then n == 0 && (lk : Int) == 0 else bif k == 2 then (lb : Int) == 0 && (lk : Int) == 0 else bif k == 3 then n == 0 && (lb : Int) == 0 else false) := rfl
  generalize aloneB k n lb lk = q at hal
  (refine fn_walk tab_ok Try.func55 rfl rfl rfl rfl ?_; (conv => whnf))
  refine new_step (evO k n (.slice A lb c) (.slice B lk cc)) rfl fun b hb => ?_
  have hE := Ext.new hb (evO k n (.slice A lb c) (.slice B lk cc))
  have hB := Heap.put_same F b (evO k n (.slice A lb c) (.slice B lk cc))
  generalize F.put b _ = F1 at hE hB ⊢
  (conv => whnf)
  refine load_blk hB rfl rfl ?_
  (conv => whnf)
  refine cond_split (fun h => ?_) (fun h => ?_)
  · have h : (k == 1) = true := h
    rw [h, cond_true] at hal
    (conv => whnf)
    refine load_blk hB rfl rfl ?_
    (conv => whnf)
    refine cond_split (fun h => ?_) (fun h => ?_)
    · have h : (n == 0) = true := h
      rw [h, Bool.true_and] at hal
      (conv => whnf)
      refine load_blk hB rfl rfl ?_
      (conv => whnf)
      exact ⟨congrArg Value.bool hal.symm, hE⟩
    · have h : (n == 0) = false := h
      rw [h, Bool.false_and] at hal
      (conv => whnf)
      exact ⟨congrArg Value.bool hal.symm, hE⟩
  · have h : (k == 1) = false := h
    rw [h, cond_false] at hal
    (conv => whnf)
    refine cond_split (fun h => ?_) (fun h => ?_)
    · have h : (k == 2) = true := h
      rw [h, cond_true] at hal
      (conv => whnf)
      refine load_blk hB rfl rfl ?_
      (conv => whnf)
      refine cond_split (fun h => ?_) (fun h => ?_)
      · have h : ((lb : Int) == 0) = true := h
        rw [h, Bool.true_and] at hal
        (conv => whnf)
        refine load_blk hB rfl rfl ?_
        (conv => whnf)
        exact ⟨congrArg Value.bool hal.symm, hE⟩
      · have h : ((lb : Int) == 0) = false := h
        rw [h, Bool.false_and] at hal
        (conv => whnf)
        exact ⟨congrArg Value.bool hal.symm, hE⟩
    · have h : (k == 2) = false := h
      rw [h, cond_false] at hal
      (conv => whnf)
      refine cond_split (fun h => ?_) (fun h => ?_)
      · have h : (k == 3) = true := h
        rw [h, cond_true] at hal
        (conv => whnf)
        refine load_blk hB rfl rfl ?_
        (conv => whnf)
        refine cond_split (fun h => ?_) (fun h => ?_)
        · have h : (n == 0) = true := h
          rw [h, Bool.true_and] at hal
          (conv => whnf)
          refine load_blk hB rfl rfl ?_
          (conv => whnf)
          exact ⟨congrArg Value.bool hal.symm, hE⟩
        · have h : (n == 0) = false := h
          rw [h, Bool.false_and] at hal
          (conv => whnf)
          exact ⟨congrArg Value.bool hal.symm, hE⟩
      · have h : (k == 3) = false := h
        rw [h, cond_false] at hal
        (conv => whnf)
        exact ⟨congrArg Value.bool hal.symm, hE⟩
theorem check (k n : Int) (bs : List UInt8) (ks : List Int) (A : Option Addr) (c : Nat) (B : Option Addr) (cc : Nat) (F : Heap) (hr : RowAt F B (ks.map (.int .i64))) (hl : ks.length ≤ 100000) :
    FnK Try.prog 28 #[.agg (evC k n (.slice A bs.length c) (.slice B ks.length cc))] F (fun v F' => v = .bool (checkB ⟨k, n, bs, ks⟩) ∧ Ext F F') := by
  have hm := checkB_iff ⟨k, n, bs, ks⟩
  generalize checkB ⟨k, n, bs, ks⟩ = q at hm ⊢
  dsimp only at hm
  have no : ∀ F', ¬ (q = true) → Ext F F' → (Value.bool false = .bool q ∧ Ext F F') := by
    intro F' h hE
    rw [Bool.not_eq_true] at h
    exact ⟨by rw [h], hE⟩
  have c1 := place n
  generalize placeB n = z1 at c1 hm
  have c2 := alone k n A bs.length c B ks.length cc
  generalize aloneB k n bs.length ks.length = z2 at c2 hm
  have c3 := fun G hg => containsF ks B cc G hg hl
  have hall : ks.all placeB = ks.all placeB := rfl
  generalize ks.all placeB = z3 at c3 hm
  (refine fn_walk tab_ok Try.func28 rfl rfl rfl rfl ?_; (conv => whnf))
  refine new_step (evO k n (.slice A bs.length c) (.slice B ks.length cc)) rfl fun b hb => ?_
  have hE := Ext.new hb (evO k n (.slice A bs.length c) (.slice B ks.length cc))
  have hB := Heap.put_same F b (evO k n (.slice A bs.length c) (.slice B ks.length cc))
  generalize F.put b _ = F1 at hE hB ⊢
  (conv => whnf)
  refine load_blk hB rfl rfl ?_
  (conv => whnf)
  refine call_of (c1 F1) ?_
  rintro v F1 ⟨rfl, rfl⟩
  cases z1 with
  | false =>
    (conv => whnf)
    exact no _ (fun h => by cases (hm.1 h).1) hE
  | true =>
  (conv => whnf)
  refine load_blk hB rfl rfl ?_
  (conv => whnf)
  refine cond_split (fun h => ?_) (fun h => ?_)
  case refine_2 =>
    have h : (!decide ((bs.length : Int) > 4000)) = false := h
    (conv => whnf)
    exact no _ (fun e => by have := (hm.1 e).2.1; simp at h; omega) hE
  have h2 : bs.length ≤ 4000 := by
    have h : (!decide ((bs.length : Int) > 4000)) = true := h
    simp at h
    omega
  (conv => whnf)
  refine load_blk hB rfl rfl ?_
  (conv => whnf)
  refine cond_split (fun h => ?_) (fun h => ?_)
  · have h : decide ((ks.length : Int) > 200) = true := h
    have h := of_decide_eq_true h
    (conv => whnf)
    exact no _ (fun e => by have := (hm.1 e).2.2.1; omega) hE
  have h3 : ks.length ≤ 200 := by
    have h : decide ((ks.length : Int) > 200) = false := h
    have := of_decide_eq_false h
    omega
  (conv => whnf)
  refine ⟨⟨_, _, _, hB, rfl, Nat.le_refl 4, ?_⟩⟩
  (conv => whnf)
  refine call_of (c2 F1) ?_
  rintro v F2 ⟨rfl, hE2⟩
  have hB2 := hE2 _ _ hB
  replace hE2 := hE.trans hE2
  cases z2 with
  | false =>
    (conv => whnf)
    exact no _ (fun h => by cases (hm.1 h).2.2.2.1) hE2
  | true =>
  (conv => whnf)
  refine load_blk hB2 rfl rfl ?_
  (conv => whnf)
  refine call_of (c3 F2 (hr.mono hE2)) ?_
  rintro v F3 ⟨rfl, rfl⟩
  (conv => whnf)
  refine ⟨congrArg Value.bool ?_, hE2⟩
  rw [Bool.not_not, Bool.eq_iff_iff, hm]
  exact ⟨fun h => ⟨rfl, h2, h3, rfl, h⟩, fun h => h.2.2.2.2⟩
end Go.Proofs.Ytkahpaipciooiad.Al

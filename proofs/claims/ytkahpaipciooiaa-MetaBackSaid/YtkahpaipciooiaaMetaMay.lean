/- The contracts of meta.may and of its reference, over what is known of memory. -/
import Derived.Test.YtkahpaipciooiaaMeta
namespace Go.Proofs.Ytkahpaipciooiaa.Al
open Go Go.Al Go.Proofs Go.RowKit
set_option maxHeartbeats 8000000
set_option maxRecDepth 100000
set_option linter.unusedVariables false
set_option linter.unusedSimpArgs false
def mayB (d f n k : Int) (l : List Int) : Bool := ((decide (d ≥ 0) && decide (d ≤ 10)) && (decide ((l.length : Int) ≥ 1) && decide ((l.length : Int) ≤ 20))) && ((in4 f && (in4 n && in4 k)) && l.all in4)
theorem may (d f n k : Int) (l : List Int) (A : Option Addr) (c : Nat) (F : Heap) (hr : RowAt F A (l.map (.int .i64))) (hl : l.length ≤ 1000) :
    FnK Try.prog 16 #[.agg #[.int .i64 d, .int .i64 f, .int .i64 n, .int .i64 k, .slice A l.length c]] F (fun v F' => v = .bool (mayB d f n k l) ∧ Ext F F') := by
  have fin : ∀ (x y z u v w : Bool) (F' : Heap), decide (d ≥ 0) = x → (x = true → decide (d ≤ 10) = y) → decide ((l.length : Int) ≥ 1) = z → (z = true → decide ((l.length : Int) ≤ 20) = u) → (x && y && (z && u) = true → (in4 f && (in4 n && in4 k)) = v) → (v = true → l.all in4 = w) → Ext F F' → (Value.bool ((x && y && (z && u)) && (v && w)) = .bool (mayB d f n k l) ∧ Ext F F') := by
    rintro x y z u v w F' h1 h2 h3 h4 h5 h6 hE
    refine ⟨congrArg Value.bool ?_, hE⟩
    unfold mayB
    rw [h1, h3]
    cases x <;> cases z <;> simp_all <;> cases y <;> cases u <;> simp_all <;> cases v <;> simp_all
  (refine fn_walk tab_ok Try.func16 rfl rfl rfl rfl ?_; (conv => whnf))
  refine new_step (.cells #[.int .i64 d, .int .i64 f, .int .i64 n, .int .i64 k, .slice A l.length c] 26) rfl fun b hb => ?_
  have hE : Ext F (F.put b (.cells #[.int .i64 d, .int .i64 f, .int .i64 n, .int .i64 k, .slice A l.length c] 26)) := Ext.new hb _
  have hB := Heap.put_same F b (.cells #[.int .i64 d, .int .i64 f, .int .i64 n, .int .i64 k, .slice A l.length c] 26)
  generalize F.put b _ = F1 at hE hB ⊢
  (conv => whnf)
  refine load_blk hB rfl rfl ?_
  (conv => whnf)
  generalize hx : decide (d ≥ 0) = x
  cases x with
  | false =>
    (conv => whnf)
    refine load_blk hB rfl rfl ?_
    (conv => whnf)
    generalize hz : decide ((l.length : Int) ≥ 1) = z
    cases z with
    | false =>
      (conv => whnf)
      exact fin false false false false false false F1 hx (fun h => by cases h) hz (fun h => by cases h) (fun h => by cases h) (fun h => by cases h) hE
    | true =>
      (conv => whnf)
      refine load_blk hB rfl rfl ?_
      (conv => whnf)
      exact fin false false true _ false false F1 hx (fun h => by cases h) hz (fun _ => rfl) (fun h => by cases h) (fun h => by cases h) hE
  | true =>
    (conv => whnf)
    refine load_blk hB rfl rfl ?_
    (conv => whnf)
    refine load_blk hB rfl rfl ?_
    (conv => whnf)
    generalize hz : decide ((l.length : Int) ≥ 1) = z
    cases z with
    | false =>
      (conv => whnf)
      generalize hy : decide (d ≤ 10) = y
      cases y with
      | false =>
        (conv => whnf)
        exact fin true false false false false false F1 hx (fun _ => hy) hz (fun h => by cases h) (fun h => by cases h) (fun h => by cases h) hE
      | true =>
        (conv => whnf)
        exact fin true true false false false false F1 hx (fun _ => hy) hz (fun h => by cases h) (fun h => by cases h) (fun h => by cases h) hE
    | true =>
      (conv => whnf)
      refine load_blk hB rfl rfl ?_
      (conv => whnf)
      generalize hy : decide (d ≤ 10) = y
      cases y with
      | false =>
        (conv => whnf)
        exact fin true false true _ false false F1 hx (fun _ => hy) hz (fun _ => rfl) (fun h => by cases h) (fun h => by cases h) hE
      | true =>
        (conv => whnf)
        generalize hu : decide ((l.length : Int) ≤ 20) = u
        cases u with
        | false =>
          (conv => whnf)
          exact fin true true true false false false F1 hx (fun _ => hy) hz (fun _ => hu) (fun h => by cases h) (fun h => by cases h) hE
        | true =>
          (conv => whnf)
          refine load_blk hB rfl rfl ?_
          (conv => whnf)
          refine load_blk hB rfl rfl ?_
          (conv => whnf)
          refine load_blk hB rfl rfl ?_
          (conv => whnf)
          refine new_step (.cells #[.int .i64 f, .int .i64 n, .int .i64 k] 3) rfl fun g hg => ?_
          have hE2 := hE.trans (Ext.new hg (.cells #[.int .i64 f, .int .i64 n, .int .i64 k] 3))
          have hB2 : (F1.put g (.cells #[.int .i64 f, .int .i64 n, .int .i64 k] 3)) b = _ := (Ext.new hg _) b _ hB
          have hr3 : RowAt (F1.put g (.cells #[.int .i64 f, .int .i64 n, .int .i64 k] 3)) (some ⟨g, 0, none⟩) (([f, n, k] : List Int).map (.int .i64)) := fun j v hj => ⟨_, rfl, by
            rw [add_plain, Heap.cell_at (Heap.put_same _ _ _), Nat.zero_add]
            simpa using hj⟩
          have h3 := fitsK [f, n, k] (some ⟨g, 0, none⟩) 3 _ hr3 (by show 3 ≤ 100000; decide)
          have hr4 := hr.mono hE2
          generalize F1.put g _ = F2 at hE2 hB2 hr3 h3 hr4 ⊢
          have h4 := fitsK l A c F2 hr4 (by omega)
          have e3 : ([f, n, k] : List Int).all in4 = (in4 f && (in4 n && in4 k)) := by simp
          generalize hv : ([f, n, k] : List Int).all in4 = v at h3 e3
          (conv => whnf)
          refine call_of h3 ?_
          rintro r _ ⟨rfl, rfl⟩
          cases v with
          | false =>
            (conv => whnf)
            exact fin true true true true false false _ hx (fun _ => hy) hz (fun _ => hu) (fun _ => e3.symm) (fun h => by cases h) hE2
          | true =>
            (conv => whnf)
            refine load_blk hB2 rfl rfl ?_
            (conv => whnf)
            generalize hw : l.all in4 = w at h4
            refine call_of h4 ?_
            rintro r _ ⟨rfl, rfl⟩
            (conv => whnf)
            exact fin true true true true true w _ hx (fun _ => hy) hz (fun _ => hu) (fun _ => e3.symm) (fun _ => hw) hE2
end Go.Proofs.Ytkahpaipciooiaa.Al

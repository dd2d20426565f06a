/- The logic of a known part of memory, 13: structs and arrays of whole numbers, held against each other. It holds for every program. -/
import Derived.Test.YtkahpaipciooiacAlMake
namespace Go.Al
open Go

def intAt (xs : Array Value) (i : Nat) : Int := match xs[i]? with | some (.int _ a) => a | _ => 0
theorem part_int {P : Program} (w : World) {t : TypeId} {k : IntKind} (h : P.underlying t = some (.int k)) (xs : Array Value) (j : Nat) (v : Value) (hv : xs[j]? = some v) : (part t xs j).run P w = .ok v w := by
  have h1 : (isAgg t).run P w = .ok false w := by
    unfold isAgg
    rw [Sem.run_bind, run_underlying h, Result.andThen_ok]
    rfl
  unfold part
  rw [Sem.run_bind, h1, Result.andThen_ok]
  simp [hv, Sem.run_pure]
theorem run_fields_ints {P : Program} (w : World) (d : Nat) (xs ys : Array Value) : ∀ (fs : List Field), (∀ f ∈ fs, f.name ≠ "_" ∧ ∃ k a b, P.underlying f.type = some (.int k) ∧ xs[f.offset]? = some (.int k a) ∧ ys[f.offset]? = some (.int k b)) →
    (Op.eqFields (d + 1) xs ys fs).run P w = .ok (fs.all fun f => intAt xs f.offset == intAt ys f.offset) w := by
  intro fs
  induction fs with
  | nil => intro _; rfl
  | cons f fs ih =>
    intro h
    obtain ⟨hn, k, a, b, hu, hx, hy⟩ := h f (by simp)
    have ih := ih fun g hg => h g (by simp [hg])
    have ha : intAt xs f.offset = a := by unfold intAt; rw [hx]
    have hb : intAt ys f.offset = b := by unfold intAt; rw [hy]
    rw [Op.eqFields, if_pos hn]
    simp only [Sem.run_bind, part_int w hu xs _ _ hx, part_int w hu ys _ _ hy, Result.andThen_ok, run_equalIn_int w d f.type k k a b hu, List.all_cons, ha, hb]
    cases hab : (a == b) with
    | true => simpa using ih
    | false => simp [Sem.run_pure]
/-- Structs whose fields are whole numbers. -/
theorem run_struct_ints {P : Program} (w : World) (d : Nat) (t : TypeId) (xs ys : Array Value) (ht : P.underlying t = some (.struct (P.fieldsOf t))) (hp : P.stoodInHeld t = false)
    (h : ∀ f ∈ (P.fieldsOf t).toList, f.name ≠ "_" ∧ ∃ k a b, P.underlying f.type = some (.int k) ∧ xs[f.offset]? = some (.int k a) ∧ ys[f.offset]? = some (.int k b)) :
    (Op.equalIn (d + 2) t (.agg xs) (.agg ys)).run P w = .ok ((P.fieldsOf t).toList.all fun f => intAt xs f.offset == intAt ys f.offset) w := by
  rw [run_equalIn_agg w (d + 1) t xs ys ht hp, run_fields_ints w d xs ys _ h]
/-- Arrays of whole numbers. -/
theorem run_array_ints {P : Program} (w : World) (d : Nat) (t e : TypeId) (n : Nat) (k : IntKind) (i : TypeInfo) (xs ys : Array Value) (hu : P.underlying t = some (.array n e)) (he : P.underlying e = some (.int k)) (hi : P.info? e = some i) (hs : i.size = 1)
    (h : ∀ j, j < n → ∃ a b, xs[j]? = some (.int k a) ∧ ys[j]? = some (.int k b)) :
    (Op.equalIn (d + 2) t (.agg xs) (.agg ys)).run P w = .ok ((List.range n).all fun j => intAt xs j == intAt ys j) w := by
  have hz : (sizeOf e).run P w = .ok 1 w := by simp [sizeOf, typeInfo, hi, hs, Sem.run_pure]
  rw [Op.equalIn]
  simp only [Sem.run_bind, run_underlying hu, Result.andThen_ok, hz]
  simp only [Std.Legacy.Range.forIn_eq_forIn_range', Std.Legacy.Range.size]
  simp only [Nat.sub_zero, Nat.add_sub_cancel, Nat.div_one]
  rw [List.range_eq_range']
  have hmem : ∀ j ∈ List.range' 0 n, j < n := fun j hj => by
    rw [List.mem_range'_1] at hj; omega
  generalize List.range' 0 n = l at hmem
  induction l with
  | nil => simp [Sem.run_pure]
  | cons j l ih =>
    have ih := ih fun q hq => hmem q (by simp [hq])
    obtain ⟨a, b, hx, hy⟩ := h j (hmem j (by simp))
    have ha : intAt xs j = a := by unfold intAt; rw [hx]
    have hb : intAt ys j = b := by unfold intAt; rw [hy]
    have px := part_int (P := P) w he xs (j * 1) (.int k a) (by rw [Nat.mul_one]; exact hx)
    have py := part_int (P := P) w he ys (j * 1) (.int k b) (by rw [Nat.mul_one]; exact hy)
    simp only [List.forIn_cons, Sem.run_bind, px, py, Result.andThen_ok, run_equalIn_int w d e k k a b he, List.all_cons, ha, hb]
    cases hab : (a == b) with
    | true =>
      simp only [Bool.not_true, Bool.false_eq_true, if_false, Sem.run_pure, Result.andThen_ok, Bool.true_and]
      exact ih
    | false => simp [Sem.run_pure]
/-- Two aggregates, held against each other. -/
theorem op_eql {P : Program} {o : Oper} {ev : Operand → Value} {F : Heap} {K : Value → Heap → Prop} {t : TypeId} {x y : Operand} {t' : TypeId} {xs ys : Array Value} (q : Bool)
    (ho : o.op = .binOp .eql t x y t') (hx : ev x = .agg xs) (hy : ev y = .agg ys) (hg : P.eqGuardType P.depth t = false) (hr : ∀ w, (Op.equalIn 10000 t (.agg xs) (.agg ys)).run P w = .ok q w) (hk : K (.bool q) F) : OpK P o ev F K := by
  refine op_run (F' := F) (s := (do eqGuard .eql t x y (ev x) (ev y); binOp .eql t (ev x) (ev y))) (by simp only [execOp, ho]) (fun w hw => ⟨w, ?_, hw, Rest.refl w⟩) hk
  rw [hx, hy, Sem.run_bind, run_eqGuard_agg w .eql t x y _ _ hg, Result.andThen_ok, run_eql_struct w t, hr]
  rfl
theorem op_neq {P : Program} {o : Oper} {ev : Operand → Value} {F : Heap} {K : Value → Heap → Prop} {t : TypeId} {x y : Operand} {t' : TypeId} {xs ys : Array Value} (q : Bool)
    (ho : o.op = .binOp .neq t x y t') (hx : ev x = .agg xs) (hy : ev y = .agg ys) (hg : P.eqGuardType P.depth t = false) (hr : ∀ w, (Op.equalIn 10000 t (.agg xs) (.agg ys)).run P w = .ok q w) (hk : K (.bool (!q)) F) : OpK P o ev F K := by
  refine op_run (F' := F) (s := (do eqGuard .neq t x y (ev x) (ev y); binOp .neq t (ev x) (ev y))) (by simp only [execOp, ho]) (fun w hw => ⟨w, ?_, hw, Rest.refl w⟩) hk
  rw [hx, hy, Sem.run_bind, run_eqGuard_agg w .neq t x y _ _ hg, Result.andThen_ok, run_neq_struct w t, hr]
  rfl
def intFields (P : Program) (k : IntKind) (n : Nat) (t : TypeId) : Bool := (P.fieldsOf t).toList.all fun f => decide (f.name ≠ "_") && ((match P.underlying f.type with | some (.int k') => kEq k k' | _ => false) && Nat.blt f.offset n)
/-- Two structs of whole numbers of one kind. -/
theorem run_struct_check {P : Program} (w : World) (t : TypeId) (xs ys : Array Value) (k : IntKind) (n : Nat) (ht : P.underlying t = some (.struct (P.fieldsOf t))) (hp : P.stoodInHeld t = false) (hc : intFields P k n t = true)
    (h : ∀ j, j < n → ∃ a b, xs[j]? = some (.int k a) ∧ ys[j]? = some (.int k b)) :
    (Op.equalIn 10000 t (.agg xs) (.agg ys)).run P w = .ok ((P.fieldsOf t).toList.all fun f => intAt xs f.offset == intAt ys f.offset) w := by
  refine run_struct_ints w 9998 t xs ys ht hp fun f hf => ?_
  have := List.all_eq_true.1 hc f hf
  rw [Bool.and_eq_true, Bool.and_eq_true, decide_eq_true_eq] at this
  obtain ⟨h1, h2, h3⟩ := this
  obtain ⟨a, b, hx, hy⟩ := h f.offset (Nat.le_of_ble_eq_true h3)
  refine ⟨h1, k, a, b, ?_, hx, hy⟩
  split at h2
  · next k' hu => rw [hu]; have : k = k' := by revert h2; cases k <;> cases k' <;> decide
                  rw [this]
  · cases h2
/-- Two arrays of whole numbers. -/
theorem op_eqlA {P : Program} {T : Tab} (hT : TabOk P T) {o : Oper} {ev : Operand → Value} {F : Heap} {K : Value → Heap → Prop} {t e : TypeId} {x y : Operand} {t' : TypeId} {xs ys : Array Value} {k : IntKind} {n a1 a2 : Nat} {z1 : Option Value} {b2 : Nat} {z2 : Option Value}
    (ho : o.op = .binOp .eql t x y t') (hx : ev x = .agg xs) (hy : ev y = .agg ys) (h1 : T t = some ⟨a1, a2, .array n e, z1⟩) (h2 : T e = some ⟨1, b2, .int k, z2⟩) (hg : P.eqGuardType P.depth t = false)
    (h : ∀ j, j < n → ∃ a b, xs[j]? = some (.int k a) ∧ ys[j]? = some (.int k b)) (hk : K (.bool ((List.range n).all fun j => intAt xs j == intAt ys j)) F) : OpK P o ev F K := by
  obtain ⟨hu1, _⟩ := hT _ _ h1
  obtain ⟨hu2, i, hi, hs, _⟩ := hT _ _ h2
  exact op_eql _ ho hx hy hg (fun w => run_array_ints w 9998 t e n k i xs ys hu1 hu2 hi hs h) hk
end Go.Al

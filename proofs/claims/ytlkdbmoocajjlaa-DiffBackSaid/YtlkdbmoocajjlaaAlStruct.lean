/- The logic of a known part of memory, 18: rows whose elements take several cells. It holds for every program. -/
import Derived.Test.YtlkdbmoocajjlaaAlTerr
import Derived.Test.YtlkdbmoocajjlaaAlData
import Derived.Test.YtlkdbmoocajjlaaAlMake
namespace Go.Al
open Go

def rowS {α : Type} (f : α → List Value) (xs : List α) : List Value := xs.flatMap f
section
variable {α : Type} {f : α → List Value} {z : Nat}
theorem rowS_cons (x : α) (xs : List α) : rowS f (x :: xs) = f x ++ rowS f xs := by unfold rowS; rw [List.flatMap_cons]
theorem rowS_len (hz : ∀ x, (f x).length = z) (xs : List α) : (rowS f xs).length = xs.length * z := by
  induction xs with
  | nil => show 0 = 0 * z; omega
  | cons x xs ih => rw [rowS_cons, List.length_append, ih, hz, List.length_cons, Nat.succ_mul]; omega
theorem rowS_at (hz : ∀ x, (f x).length = z) : ∀ (xs : List α) (j : Nat) (x : α), xs[j]? = some x → ((rowS f xs).drop (j * z)).take z = f x := by
  intro xs
  induction xs with
  | nil => intro j x h; simp at h
  | cons y xs ih =>
    intro j x h
    rw [rowS_cons]
    cases j with
    | zero =>
      obtain rfl : y = x := by simpa using h
      rw [Nat.zero_mul, List.drop_zero]
      exact List.take_left' (hz y)
    | succ j =>
      rw [Nat.succ_mul, Nat.add_comm, ← List.drop_drop, List.drop_left' (hz y)]
      exact ih j x (by simpa using h)
theorem rowS_get (hz : ∀ x, (f x).length = z) {xs : List α} {j q : Nat} {x : α} {v : Value} (h : xs[j]? = some x) (hq : (f x)[q]? = some v) : (rowS f xs)[j * z + q]? = some v := by
  have hlt : q < z := by rw [← hz x]; exact (List.getElem?_eq_some_iff.1 hq).1
  rw [← rowS_at hz xs j x h, List.getElem?_take, if_pos hlt, List.getElem?_drop] at hq
  exact hq
theorem rowS_loads (hz : ∀ x, (f x).length = z) (h0 : 0 < z) {F : Heap} {ad : Addr} {xs : List α} {j : Nat} {x : α} {K : Value → Prop} (hr : RowAt F (some ad) (rowS f xs)) (h : xs[j]? = some x) (hk : K (.agg (f x).toArray)) : LoadsK F (ad.add (Int.toNat (j : Int) * z)) z K := by
  have hlt : j < xs.length := (List.getElem?_eq_some_iff.1 h).1
  rw [Int.toNat_natCast]
  refine loads_row hr h0 ?_ ?_
  · rw [rowS_len hz]
    calc j * z + z = (j + 1) * z := (Nat.succ_mul j z).symm
      _ ≤ xs.length * z := Nat.mul_le_mul_right z hlt
  · rw [rowS_at hz xs j x h]; exact hk
theorem rowS_cell (hz : ∀ x, (f x).length = z) {F : Heap} {ad : Addr} {xs : List α} {j q : Nat} {x : α} {v : Value} (hr : RowAt F (some ad) (rowS f xs)) (h : xs[j]? = some x) (hq : (f x)[q]? = some v) : F.cell? ((ad.add (Int.toNat (j : Int) * z)).add q) = some v := by
  rw [Int.toNat_natCast, add_add]
  exact hr.cell (rowS_get hz h hq)
/-- One element is another one. -/
theorem rowS_set (hz : ∀ x, (f x).length = z) : ∀ (xs : List α) (j q : Nat) (x y : α) (v : Value), xs[j]? = some x → q < z → f y = (f x).set q v → putL (rowS f xs) (j * z + q) [v] = rowS f (xs.set j y) := by
  intro xs
  induction xs with
  | nil => intro j q x y v h; simp at h
  | cons w xs ih =>
    intro j q x y v h hq hy
    rw [rowS_cons]
    cases j with
    | zero =>
      obtain rfl : w = x := by simpa using h
      rw [List.set_cons_zero, rowS_cons, hy, Nat.zero_mul, Nat.zero_add]
      show (f w ++ rowS f xs).set q v = _
      rw [List.set_append_left _ _ (by rw [hz]; exact hq)]
    | succ j =>
      have := ih j q x y v (by simpa using h) hq hy
      rw [List.set_cons_succ, rowS_cons, ← this]
      show (f w ++ rowS f xs).set ((j + 1) * z + q) v = f w ++ (rowS f xs).set (j * z + q) v
      rw [List.set_append_right _ _ (by rw [hz, Nat.succ_mul]; omega), hz, Nat.succ_mul]
      congr 2
      omega
/-- Rows of structs among a law's arguments. -/
theorem rowS_open {β : Type} {K : Kind β} {G : β → Prop} {Q : α → β → Prop} (hz : ∀ x, (f x).length = z) (h0 : 0 < z) {F : Heap} {A : Option Addr} {xs : List β} (w : ∀ x ∈ xs, G x) (h : Elems F A z K xs) (ho : ∀ x c, G x → K F x c → ∃ r, c = f r ∧ Q r x) :
    ∃ rs : List α, rs.length = xs.length ∧ RowAt F A (rowS f rs) ∧ ∀ (j : Nat) r x, rs[j]? = some r → xs[j]? = some x → Q r x := by
  have hex : ∀ (j : Nat) (hj : j < xs.length), ∃ r : α, Q r xs[j] ∧ ∃ a, A = some a ∧ ∀ q u, (f r)[q]? = some u → F.cell? (a.add (j * z + q)) = some u := by
    intro j hj
    obtain ⟨a, c, h1, h2, h3, h4⟩ := h j _ (List.getElem?_eq_getElem hj)
    obtain ⟨r, rfl, hr⟩ := ho _ _ (w _ (List.getElem_mem hj)) h3
    exact ⟨r, hr, a, h1, h4⟩
  have key : ∀ n, n ≤ xs.length → ∃ rs : List α, rs.length = n ∧ ∀ (j : Nat) r, rs[j]? = some r → (∀ x, xs[j]? = some x → Q r x) ∧ ∃ a, A = some a ∧ ∀ q u, (f r)[q]? = some u → F.cell? (a.add (j * z + q)) = some u := by
    intro n
    induction n with
    | zero => intro _; exact ⟨[], rfl, fun j r h => by simp at h⟩
    | succ n ih =>
      intro hn
      obtain ⟨rs, hl, hp⟩ := ih (by omega)
      obtain ⟨r, hr, hr2⟩ := hex n (by omega)
      refine ⟨rs ++ [r], by simp [hl], fun j q hq => ?_⟩
      by_cases hj : j < rs.length
      · rw [List.getElem?_append_left hj] at hq
        exact hp j q hq
      · rw [List.getElem?_append_right (by omega)] at hq
        have hj0 : j - rs.length = 0 := by
          have := (List.getElem?_eq_some_iff.1 hq).1
          simp at this; omega
        rw [hj0] at hq
        obtain rfl : r = q := by simpa using hq
        obtain rfl : j = n := by omega
        refine ⟨fun x hx => ?_, hr2⟩
        rw [List.getElem?_eq_getElem (by omega)] at hx
        obtain rfl := Option.some.inj hx
        exact hr
  obtain ⟨rs, hl, hp⟩ := key xs.length (Nat.le_refl _)
  refine ⟨rs, hl, ?_, fun j r x hj hx => (hp j r hj).1 x hx⟩
  intro j v hj
  have hlt : j < (rowS f rs).length := (List.getElem?_eq_some_iff.1 hj).1
  rw [rowS_len hz] at hlt
  have hq : j / z < rs.length := (Nat.div_lt_iff_lt_mul h0).2 hlt
  have hx := List.getElem?_eq_getElem hq
  obtain ⟨_, a, h1, h2⟩ := hp _ _ hx
  refine ⟨a, h1, ?_⟩
  have hjz : j / z * z + j % z = j := by rw [Nat.mul_comm]; exact Nat.div_add_mod j z
  have := h2 (j % z) v (by rw [← rowS_at hz rs _ _ hx, List.getElem?_take, if_pos (Nat.mod_lt _ h0), List.getElem?_drop, hjz]; exact hj)
  rwa [hjz] at this
end
/-- A new row of zeros of several cells each. -/
theorem make_rows {P : Program} {T : Tab} (hT : TabOk P T) {o : Oper} {ev : Operand → Value} {F : Heap} {K : Value → Heap → Prop} {t e : TypeId} {p q : Operand} (c : Nat) {zc : Array Value} {a1 a2 : Nat} {z1 : Option Value} {d : TD}
    (ho : o.op = .makeSlice t p q) (hp : ev p = .int .i64 c) (hq : ev q = .int .i64 c) (h1 : T t = some ⟨a1, a2, .slice e, z1⟩) (h2 : T e = some d) (hd : zc.size = d.size ∧ 0 < d.bytes ∧ ∃ zv, d.zero = some zv ∧ zv.cells = zc)
    (hc : c * d.bytes ≤ 281474976710656) (h0 : 0 < c) (hs : 0 < d.size)
    (hk : ∀ b, F b = none → K (.slice (some ⟨b, 0, none⟩) c c) (F.put b (.cells (zerosL zc.toList c).toArray e))) : OpK P o ev F K := by
  obtain ⟨hu1, _⟩ := hT _ _ h1
  obtain ⟨_, i, hi, hsz, hby, hze⟩ := hT _ _ h2
  obtain ⟨hd1, hd2, zv, hzv, hzc⟩ := hd
  have hcc : c ≤ 281474976710656 := Nat.le_trans (Nat.le_mul_of_pos_right c hd2) hc
  refine ⟨opW_v (s := Instr.makeSlice t (ev p) (ev q)) (by simp only [execOp, ho]) ?_⟩
  rw [hp, hq]
  unfold Instr.makeSlice
  rw [wk_bind, wk_underlying hu1]
  dsimp only
  have hw2 : IntKind.i64.wrap (c : Int) = c := by rw [IntKind.wrap_i64]; omega
  have hb : ¬ ((d.bytes : Int) * (c : Int) > 2 ^ 48) := by
    have : ((c * d.bytes : Nat) : Int) ≤ ((281474976710656 : Nat) : Int) := Int.ofNat_le.2 hc
    rw [Int.natCast_mul] at this
    rw [Int.mul_comm]
    omega
  simp only [asInt, asIntOf, wk_bind, wk_pure, wk_typeInfo hi, hby, hw2]
  rw [if_neg (by simp; omega)]
  simp only [wk_bind, wk_askRoom, wk_sizeOf hi, hsz, Int.toNat_natCast]
  have fin : wk P (newRow e ((Array.range (c * d.size)).map (fun x => zc[x % zc.size]!))) F (fun a F' => K (.slice (some a) c c) F') := by
    have : (Array.range (c * d.size)).map (fun x => zc[x % zc.size]!) = (zerosL zc.toList c).toArray := by
      rw [← Array.toList_inj, ← hd1, zeros_eq, List.toList_toArray]
    rw [this]
    simp only [newRow, wk_bind, wk_pure]
    exact run_new ⟨fun b hb => hk b hb⟩
  rw [if_neg (by first | omega | exact Nat.ne_of_gt (Nat.mul_pos h0 hs)), wk_bind, wk_zeroValue hi (hze.trans hzv)]
  simp only [wk_bind, wk_pure, hzc]
  exact (wk_bind _ _ F _).1 fin
end Go.Al

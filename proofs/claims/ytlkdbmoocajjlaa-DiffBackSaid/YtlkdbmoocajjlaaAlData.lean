/- The logic of a known part of memory, 11: rows of numbers and of bytes among a law's arguments. It holds for every program. -/
import Derived.Test.YtlkdbmoocajjlaaAlOpen
namespace Go.Al
open Go Go.RowKit

theorem elems_ints {F : Heap} {A : Option Addr} {k : IntKind} {xs : List Int} (h : Elems F A 1 (kInt k) xs) : RowAt F A (xs.map (.int k)) := by
  intro j v hj
  rw [List.getElem?_map] at hj
  obtain ⟨x, hx, rfl⟩ := Option.map_eq_some_iff.1 hj
  obtain ⟨a, c, h1, h2, h3, h4⟩ := h j x hx
  obtain rfl : c = [.int k x] := h3
  refine ⟨a, h1, ?_⟩
  have := h4 0 (.int k x) rfl
  rwa [Nat.mul_one, Nat.add_zero] at this
theorem bytes_of_wf {xs : List Int} (h : ∀ x ∈ xs, (Lit.int .u8 x).wf = true) : ∃ l : List UInt8, xs = l.map fun b => (b.toNat : Int) := by
  induction xs with
  | nil => exact ⟨[], rfl⟩
  | cons x xs ih =>
    obtain ⟨l, hl⟩ := ih fun y hy => h y (by simp [hy])
    have hx := h x (by simp)
    simp [Lit.wf, IntKind.min, IntKind.max, IntKind.signed, IntKind.bits] at hx
    refine ⟨UInt8.ofNat x.toNat :: l, ?_⟩
    rw [List.map_cons, ← hl, UInt8.toNat_ofNat', Nat.mod_eq_of_lt (by omega)]
    congr 1
    omega
theorem elems_bytes {F : Heap} {A : Option Addr} {l : List UInt8} (h : Elems F A 1 (kInt .u8) (l.map fun b => (b.toNat : Int))) : RowAt F A (l.map fun b => .int .u8 b.toNat) := by
  have := elems_ints h
  rwa [List.map_map] at this
theorem wf_i64 {a : Int} (w : (Lit.int .i64 a).wf = true) : -9223372036854775808 ≤ a ∧ a < 9223372036854775808 := by
  simp [Lit.wf, IntKind.min, IntKind.max, IntKind.signed, IntKind.bits] at w
  omega
theorem ext_put_put {F : Heap} {p : Nat} {o o' : Obj} (hp : F p = none) : Ext F ((F.put p o).put p o') := by
  intro b u hb
  have hne : b ≠ p := fun e => by rw [e, hp] at hb; cases hb
  rw [Heap.put_other _ _ hne, Heap.put_other _ _ hne]
  exact hb
/-- The slots that are read later, and no others: a long environment made short. -/
theorem short {X : Env → Heap → Prop} {env : Env} {F : Heap} (ss : List Nat) (vs : List Value) (hv : ss.map env = vs) (h : ∀ ρ : Env, X (slotsE ρ ss vs) F) : X env F := by
  have := h env
  rw [← hv, slotsE_self] at this
  exact this
end Go.Al

/- The logic of a known part of memory, 12: rows whose elements take several cells. It holds for every program. -/
import Derived.Test.YtlkdbmoocajjlaaAlNum
namespace Go.Al
open Go Go.RowKit

theorem cell_block {F : Heap} {a : Addr} {v : Value} (h : F.cell? a = some v) : ∃ c e fz, F a.block = some (.cells c e fz) ∧ a.spot = none ∧ c[a.off]? = some v := by
  unfold Heap.cell? at h
  split at h
  · next c e fz hb =>
    split at h
    · cases h
    · next hs => exact ⟨c, e, fz, hb, by simpa using hs, h⟩
  · cases h
theorem add_parts (a : Addr) (i : Nat) : (a.add i).block = a.block ∧ (a.add i).off = a.off + i := by
  unfold Addr.add
  split
  · next h => subst h; exact ⟨rfl, rfl⟩
  · exact ⟨rfl, rfl⟩
/-- An element of n cells, read as one. -/
theorem loads_row {F : Heap} {a : Addr} {vs : List Value} {n i : Nat} {K : Value → Prop} (hr : RowAt F (some a) vs) (hn : 0 < n) (hi : i + n ≤ vs.length) (hk : K (.agg ((vs.drop i).take n).toArray)) : LoadsK F (a.add i) n K := by
  have cell : ∀ j, j < n → ∃ v, vs[i + j]? = some v ∧ F.cell? (a.add (i + j)) = some v := fun j hj => by
    have : vs[i + j]? = some (vs[i + j]'(by omega)) := List.getElem?_eq_getElem (by omega)
    exact ⟨_, this, hr.cell this⟩
  obtain ⟨v0, h0, hc0⟩ := cell 0 hn
  rw [Nat.add_zero] at h0 hc0
  obtain ⟨c, e, fz, hb, hs, hv⟩ := cell_block hc0
  obtain ⟨hbl, hoff⟩ := add_parts a i
  have all : ∀ j, j < n → c[(a.add i).off + j]? = vs[i + j]? := fun j hj => by
    obtain ⟨v, h1, h2⟩ := cell j hj
    obtain ⟨c', e', fz', hb', hs', hv'⟩ := cell_block h2
    obtain ⟨hbl', hoff'⟩ := add_parts a (i + j)
    rw [hbl'] at hb'
    rw [hbl] at hb
    rw [hb] at hb'
    injection hb' with hb'
    injection hb' with e1
    subst e1
    rw [h1, ← hv', hoff, hoff', Nat.add_assoc]
  have hsz : (a.add i).off + n ≤ c.size := by
    have h1 := all (n - 1) (by omega)
    obtain ⟨v, h2, _⟩ := cell (n - 1) (by omega)
    rw [h2] at h1
    have := (Array.getElem?_eq_some_iff.1 h1).1
    omega
  refine ⟨⟨c, e, fz, hb, hs, hsz, ?_⟩⟩
  have : c.extract (a.add i).off ((a.add i).off + n) = ((vs.drop i).take n).toArray := by
    apply Array.ext'
    apply List.ext_getElem?
    intro j
    rw [Array.toList_extract, List.extract_eq_take_drop, List.getElem?_take, List.toList_toArray, List.getElem?_take]
    rw [show (a.add i).off + n - (a.add i).off = n by omega]
    by_cases hj : j < n
    · rw [if_pos hj, if_pos hj, List.getElem?_drop, List.getElem?_drop]
      have := all j hj
      simpa using this
    · rw [if_neg hj, if_neg hj]
  rw [this]
  exact hk
/-- A row that reads as these bytes. -/
def Bs (F : Heap) (v : Value) (bs : List UInt8) : Prop := ∃ A c, v = .slice A bs.length c ∧ bs.length ≤ c ∧ RowAt F A (bytesOf bs)
theorem Bs.mono {F G : Heap} {v : Value} {bs : List UInt8} (h : Bs F v bs) (hE : Ext F G) : Bs G v bs := by
  obtain ⟨A, c, h1, h2, h3⟩ := h
  exact ⟨A, c, h1, h2, h3.mono hE⟩
theorem Bs.nil (F : Heap) : Bs F (.slice none 0 0) [] := ⟨none, 0, rfl, Nat.le_refl _, RowAt.nil _ _⟩
theorem Bs.of_mine {F F' : Heap} {v : Value} {e : TypeId} {bs : List UInt8} (h : Mine F F' v e 1 bs.length (bytesOf bs)) : Bs F' v bs := by
  obtain ⟨A, c, h1, h2, h3⟩ := h.own.row
  exact ⟨A, c, h1, h2, h3⟩
theorem Mine.down {F G F' : Heap} {s : Value} {e z n : Nat} {vs : List Value} (h : Mine G F' s e z n vs) (hE : Ext F G) : Mine F F' s e z n vs := by
  refine ⟨h.own, fun b hb => ?_, hE.trans h.ext⟩
  cases e0 : F b with
  | none => rfl
  | some o =>
    have := h.fresh b hb
    rw [hE b o e0] at this
    cases this
/-- A row stays where one block alone is changed. -/
theorem row_keeps {F F' : Heap} {A : Option Addr} {vs : List Value} {w : Nat} (h : RowAt F A vs) (hA : ∀ a, A = some a → a.block ≠ w) (hk : Keeps F F' (some w)) : RowAt F' A vs := fun j v hj => by
  obtain ⟨a, h1, h2⟩ := h j v hj
  refine ⟨a, h1, ?_⟩
  obtain ⟨c, e, fz, hb, hs, hv⟩ := cell_block h2
  have hbl : (a.add j).block = a.block := (add_parts a j).1
  have := hk _ _ hb (fun e => hA a h1 (by rw [← hbl]; exact (Option.some.inj e).symm))
  unfold Heap.cell?
  rw [this]
  simp only [hs, Option.isSome_none, Bool.false_eq_true, if_false]
  exact hv
theorem Keeps.trans {F G H : Heap} {w : Option Nat} (h : Keeps F G w) (k : Keeps G H w) : Keeps F H w := fun c o hc hw => k c o (h c o hc hw) hw
theorem Mine.put {F0 F : Heap} {S : Value} {e z n : Nat} {vs : List Value} {w : Nat} (h : Mine F0 F S e z n vs) (h0 : F0 w = none) (hb : blk S ≠ some w) (o : Obj) : Mine F0 (F.put w o) S e z n vs := by
  refine ⟨h.own.of_blk fun q u hq hu => ?_, h.fresh, h.ext.put h0 _⟩
  have hne : q ≠ w := fun e => hb (by rw [hq, e])
  rw [Heap.put_other _ _ hne]; exact hu
theorem Mine.keeps {F0 F F' : Heap} {S : Value} {e z n : Nat} {vs : List Value} {r : Nat} (h : Mine F0 F S e z n vs) (hb : blk S ≠ some r) (hk : Keeps F F' (some r)) (h0 : F0 r = none) : Mine F0 F' S e z n vs := by
  refine ⟨h.own.of_blk fun q u hq hu => hk _ _ hu fun e => hb (by rw [hq, e]), h.fresh, hk.ext h.ext fun k hk' => ?_⟩
  obtain rfl := Option.some.inj hk'
  exact h0
/-- A row's block holds cells of its own type. -/
theorem Own.blk_ne {F : Heap} {S : Value} {e z n : Nat} {vs : List Value} {q : Nat} {cs : Array Value} {e' : TypeId} {fz : Nat × Nat} (h : Own F S e z n vs) (hq : F q = some (.cells cs e' fz)) (hne : e ≠ e') : blk S ≠ some q := by
  intro hbl
  rcases h.2 with ⟨h1, _⟩ | ⟨b, c, cs', h1, ⟨fz', hb, _⟩, _⟩
  · subst h1; cases hbl
  · subst h1
    obtain rfl : b = q := Option.some.inj hbl
    rw [hq] at hb
    injection hb with hb
    injection hb with h1 h2 h3
    exact hne h2.symm
/-- Numbers behind bytes. -/
def putAllM (m : Nat) (bs : List UInt8) (l : List Int) : List UInt8 := l.foldl (putM m) bs
theorem putAllM_len (m : Nat) : ∀ (l : List Int) (bs : List UInt8), (putAllM m bs l).length ≤ bs.length + m * l.length := by
  intro l
  induction l with
  | nil => intro bs; exact Nat.le_add_right _ _
  | cons n l ih =>
    intro bs
    have h1 := ih (putM m bs n)
    have h2 := putM_len m bs n
    show (putAllM m (putM m bs n) l).length ≤ _
    rw [List.length_cons, Nat.mul_add, Nat.mul_one]
    omega
theorem putAllM_take (m : Nat) (bs : List UInt8) (l : List Int) (j : Nat) (n : Int) (h : l[j]? = some n) : putAllM m bs (l.take (j + 1)) = putM m (putAllM m bs (l.take j)) n := by
  unfold putAllM
  rw [List.take_add_one, h, Option.toList_some, List.foldl_append]
  rfl
theorem putAllM_in {m : Nat} : ∀ {l : List Int} (bs : List UInt8), l.all (inM m) = true → putAllM m bs l = bs ++ l.flatMap (beM m) := by
  intro l
  induction l with
  | nil => intro bs _; show bs = bs ++ []; rw [List.append_nil]
  | cons n l ih =>
    intro bs h
    rw [List.all_cons, Bool.and_eq_true] at h
    show putAllM m (putM m bs n) l = _
    rw [ih _ h.2, List.flatMap_cons, ← List.append_assoc]
    unfold putM
    rw [h.1, cond_true]
end Go.Al

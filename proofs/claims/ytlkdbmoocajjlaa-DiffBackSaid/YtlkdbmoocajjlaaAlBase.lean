/- The logic of a known part of memory: a finite part F of the heap is known; what an operation's meaning comes to is said by recursion over it ('Sem.wk'), once for all operations; a function's contract ('Fn') says what its call makes of F. It holds for every program. -/
import Derived.Orders
import Derived.Laws.Sem
import Derived.Laws.World
import Derived.Below
import Derived.Scope
namespace Go.Al
open Go

/-- The part of the heap that is known. -/
abbrev Heap := Nat → Option Obj
def Heap.put (F : Heap) (b : Nat) (o : Obj) : Heap := fun c => if c = b then some o else F c
@[simp] theorem Heap.put_same (F : Heap) (b : Nat) (o : Obj) : F.put b o b = some o := by simp [Heap.put]
theorem Heap.put_other (F : Heap) {b c : Nat} (o : Obj) (h : c ≠ b) : F.put b o c = F c := by simp [Heap.put, h]
/-- What is known of w. -/
def Has (F : Heap) (w : World) : Prop := ∀ b o, F b = some o → w.heap[b]? = some o
theorem Has.lt {F : Heap} {w : World} (h : Has F w) {b : Nat} {o : Obj} (hb : F b = some o) : b < w.heap.size := by
  have := h b o hb
  exact (Array.getElem?_eq_some_iff.1 this).1
theorem Has.fresh {F : Heap} {w : World} (h : Has F w) : F w.heap.size = none := by
  cases hb : F w.heap.size with
  | none => rfl
  | some o => exact absurd (h.lt hb) (by omega)
/-- What isn't the heap stays. -/
structure Rest (w w' : World) : Prop where
  os : w'.os = w.os
  tape : w'.tape = w.tape
  output : w'.output = w.output
  size : w.heap.size ≤ w'.heap.size
  keep : ∀ r : Nat, w.heap[r]? = some (.deferred (some [])) → w'.heap[r]? = some (.deferred (some []))
theorem Rest.refl (w : World) : Rest w w := ⟨rfl, rfl, rfl, Nat.le_refl _, fun _ h => h⟩
theorem Rest.trans {a b c : World} (h : Rest a b) (k : Rest b c) : Rest a c := ⟨k.os.trans h.os, k.tape.trans h.tape, k.output.trans h.output, Nat.le_trans h.size k.size, fun r hr => k.keep r (h.keep r hr)⟩
theorem Rest.modify {w : World} (b : Nat) (f : Obj → Obj) (hf : f (.deferred (some [])) = .deferred (some [])) : Rest w { w with heap := w.heap.modify b f } := by
  refine ⟨rfl, rfl, rfl, by simp, fun r hr => ?_⟩
  show (w.heap.modify b f)[r]? = _
  rw [Array.getElem?_modify]
  split
  · rw [hr, Option.map_some, hf]
  · exact hr
theorem Rest.push (w : World) (o : Obj) : Rest w { w with heap := w.heap.push o } := by
  refine ⟨rfl, rfl, rfl, by simp, fun r hr => ?_⟩
  show (w.heap.push o)[r]? = _
  have : r < w.heap.size := (Array.getElem?_eq_some_iff.1 hr).1
  rw [Array.getElem?_push, if_neg (by omega)]
  exact hr
def Heap.cell? (F : Heap) (a : Addr) : Option Value :=
  match F a.block with
  | some (.cells c _ _) => if a.spot.isSome then none else c[a.off]?
  | _ => none
def Heap.frozen? (F : Heap) (a : Addr) : Option Bool :=
  match F a.block with
  | some (.cells _ _ (lo, hi)) => some (decide (lo ≤ a.off) && decide (a.off < hi))
  | _ => none
def Heap.setCell (F : Heap) (a : Addr) (v : Value) : Heap :=
  match F a.block with
  | some (.cells c e fz) => F.put a.block (.cells (if a.spot.isSome then c else c.setIfInBounds a.off v) e fz)
  | _ => F
def Heap.freeze (F : Heap) (a : Addr) (n : Nat) : Heap :=
  if n = 0 then F else
  match F a.block with
  | some (.cells c e (lo, hi)) => F.put a.block (.cells c e (if lo == hi then (a.off, a.off + n) else (min lo a.off, max hi (a.off + n))))
  | _ => F
def Heap.shape? (F : Heap) (r : Nat) : Option (Option (TypeId × Nat)) :=
  match F r with
  | some (.cells c e _) => some (some (e, c.size))
  | some _ => some none
  | none => none
theorem Has.cell {F : Heap} {w : World} (h : Has F w) {a : Addr} {v : Value} (hc : F.cell? a = some v) : w.cell? a = some v := by
  unfold Heap.cell? at hc
  unfold World.cell?
  split at hc
  · next c e fz hb => rw [h _ _ hb]; exact hc
  · cases hc
theorem Has.put {F : Heap} {w w' : World} (h : Has F w) {b : Nat} {o : Obj} (hb : w'.heap[b]? = some o) (hr : ∀ c, c ≠ b → w'.heap[c]? = w.heap[c]?) : Has (F.put b o) w' := by
  intro c u hu
  by_cases hc : c = b
  · subst hc; rw [Heap.put_same] at hu; rw [hb, hu]
  · rw [Heap.put_other F o hc] at hu; rw [hr c hc]; exact h c u hu
theorem Has.new {F : Heap} {w : World} (h : Has F w) (o : Obj) : Has (F.put w.heap.size o) { w with heap := w.heap.push o } := by
  refine h.put (by simp) (fun c hc => ?_)
  show (w.heap.push o)[c]? = _
  rw [Array.getElem?_push, if_neg (by omega)]
theorem Heap.setCell_of {F : Heap} {a : Addr} {c : Array Value} {e : TypeId} {fz : Nat × Nat} (hb : F a.block = some (.cells c e fz)) (v : Value) : F.setCell a v = F.put a.block (.cells (if a.spot.isSome then c else c.setIfInBounds a.off v) e fz) := by
  unfold Heap.setCell
  rw [hb]
theorem Has.setCell {F : Heap} {w : World} (h : Has F w) {a : Addr} {u : Value} (hc : F.cell? a = some u) (v : Value) : Has (F.setCell a v) (w.setCell a v) := by
  unfold Heap.cell? at hc
  split at hc
  · next c e fz hb =>
    rw [Heap.setCell_of hb]
    have hw := h _ _ hb
    refine h.put ?_ (fun k hk => ?_)
    · simp only [World.setCell, Array.getElem?_modify, if_true, hw, Option.map_some]
    · simp only [World.setCell, Array.getElem?_modify, if_neg (Ne.symm hk)]
  · cases hc
theorem Has.freeze {F : Heap} {w : World} (h : Has F w) {a : Addr} (n : Nat) {c : Array Value} {e : TypeId} {fz : Nat × Nat} (hb : F a.block = some (.cells c e fz)) : Has (F.freeze a n) (w.freeze a n) := by
  unfold Heap.freeze World.freeze
  split
  · exact h
  · obtain ⟨lo, hi⟩ := fz
    simp only [hb]
    refine h.put ?_ (fun k hk => ?_)
    · simp only [Array.getElem?_modify, if_true, h _ _ hb, Option.map_some]
    · simp only [Array.getElem?_modify, if_neg (Ne.symm hk)]
theorem Has.of_heap {F : Heap} {w w' : World} (h : Has F w) (e : w'.heap = w.heap) : Has F w' := fun b o hb => by rw [e]; exact h b o hb

/-- What a meaning comes to over the known part of memory, whatever is drawn. -/
def wk {α : Type} (P : Program) : Sem α → Heap → (α → Heap → Prop) → Prop
  | .pure a, F, K => K a F
  | .load _ a k, F, K => ∃ v, F.cell? a = some v ∧ wk P (k v) F K
  | .store _ a v k, F, K => v.oneCell' = true ∧ (∃ u, F.cell? a = some u) ∧ F.frozen? a = some false ∧ wk P k (F.setCell a v) K
  | .new o k, F, K => ∀ b, F b = none → wk P (k b) (F.put b o) K
  | .shape r k, F, K => ∃ s, F.shape? r = some s ∧ wk P (k s) F K
  | .freeze a n k, F, K => (∃ c e fz, F a.block = some (.cells c e fz)) ∧ wk P k (F.freeze a n) K
  | .frozen a k, F, K => ∃ b, F.frozen? a = some b ∧ wk P (k b) F K
  | .getObj r k, F, K => ∃ o, F r = some o ∧ (∀ c e fz, o ≠ .cells c e fz) ∧ wk P (k o) F K
  | .setObj r o k, F, K => (∃ u, F r = some u ∧ (∀ c e fz, u ≠ .cells c e fz) ∧ ∀ d, u ≠ .deferred d) ∧ wk P k (F.put r o) K
  | .choose q k, F, K => ∀ n, (q.forced = true → n = 0) → (q.forced = false → ∃ t, n = q.cut t) → wk P (k n) F K
  | .sys _ _, _, _ => False
  | .program k, F, K => wk P (k P) F K
  | .mark _ k, F, K => wk P k F K
  | .halt _, _, _ => False

theorem wk_sound {α : Type} {P : Program} {s : Sem α} {F : Heap} {K : α → Heap → Prop} {w : World} (h : wk P s F K) (hF : Has F w) :
    ∃ a w' F', s.run P w = .ok a w' ∧ Has F' w' ∧ Rest w w' ∧ K a F' := by
  induction s generalizing F w with
  | pure a => exact ⟨a, w, F, rfl, hF, Rest.refl w, h⟩
  | load m a k ih =>
    obtain ⟨v, hv, h⟩ := h
    obtain ⟨x, w', F', hr, h1, h2, h3⟩ := ih v h hF
    exact ⟨x, w', F', by simp only [Sem.run, hF.cell hv]; exact hr, h1, h2, h3⟩
  | store m a v k ih =>
    obtain ⟨h0, ⟨u, hu⟩, hz, h⟩ := h
    obtain ⟨x, w', F', hr, h1, h2, h3⟩ := ih h (hF.setCell hu v)
    have hfz : w.frozen? a = false := by
      unfold Heap.frozen? at hz
      unfold World.frozen?
      split at hz
      · next c e lo hi hb => rw [hF _ _ hb]; simpa using hz
      · cases hz
    refine ⟨x, w', F', ?_, h1, (Rest.modify a.block _ rfl : Rest w (w.setCell a v)).trans h2, h3⟩
    cases v <;> first
      | (simp [Value.oneCell'] at h0; done)
      | (simp only [Sem.run, hF.cell hu, hfz]; exact hr)
  | new o k ih =>
    obtain ⟨x, w', F', hr, h1, h2, h3⟩ := ih w.heap.size (h w.heap.size hF.fresh) (hF.new o)
    exact ⟨x, w', F', by simp only [Sem.run]; exact hr, h1, (Rest.push w o).trans h2, h3⟩
  | shape r k ih =>
    obtain ⟨s, hs, h⟩ := h
    obtain ⟨x, w', F', hr, h1, h2, h3⟩ := ih s h hF
    refine ⟨x, w', F', ?_, h1, h2, h3⟩
    have : w.shape? r = s := by
      unfold Heap.shape? at hs
      unfold World.shape?
      split at hs
      · next c e fz hb => rw [hF _ _ hb]; exact Option.some.inj hs
      · next o hn hb =>
        rw [hF _ _ hb]
        cases o <;> first | exact Option.some.inj hs | exact (hn _ _ _ rfl).elim
      · cases hs
    simp only [Sem.run, this]; exact hr
  | freeze a n k ih =>
    obtain ⟨⟨c, e, fz, hb⟩, h⟩ := h
    obtain ⟨x, w', F', hr, h1, h2, h3⟩ := ih h (hF.freeze n hb)
    refine ⟨x, w', F', by simp only [Sem.run]; exact hr, h1, Rest.trans ?_ h2, h3⟩
    unfold World.freeze
    split
    · exact Rest.refl w
    · exact Rest.modify _ _ rfl
  | frozen a k ih =>
    obtain ⟨s, hs, h⟩ := h
    obtain ⟨x, w', F', hr, h1, h2, h3⟩ := ih s h hF
    refine ⟨x, w', F', ?_, h1, h2, h3⟩
    have : w.frozen? a = s := by
      unfold Heap.frozen? at hs
      unfold World.frozen?
      split at hs
      · next c e lo hi hb => rw [hF _ _ hb]; exact Option.some.inj hs
      · cases hs
    simp only [Sem.run, this]; exact hr
  | getObj r k ih =>
    obtain ⟨o, ho, hn, h⟩ := h
    obtain ⟨x, w', F', hr, h1, h2, h3⟩ := ih o h hF
    refine ⟨x, w', F', ?_, h1, h2, h3⟩
    simp only [Sem.run, hF _ _ ho]
    cases o <;> first | exact hr | exact absurd rfl (hn _ _ _)
  | setObj r o k ih =>
    obtain ⟨⟨u, hu, hn, hnd⟩, h⟩ := h
    have hput : Has (F.put r o) { w with heap := w.heap.setIfInBounds r o } := by
      refine hF.put ?_ (fun c hc => ?_)
      · have := hF.lt hu
        simp [this]
      · simp [Ne.symm hc]
    obtain ⟨x, w', F', hr, h1, h2, h3⟩ := ih h hput
    refine ⟨x, w', F', ?_, h1, (⟨rfl, rfl, rfl, by simp, fun q hq => by
      show (w.heap.setIfInBounds r o)[q]? = _
      have hne : r ≠ q := fun e => by subst e; rw [hF _ _ hu] at hq; exact hnd _ (Option.some.inj hq)
      rw [Array.getElem?_setIfInBounds_ne hne]
      exact hq⟩ : Rest w { w with heap := w.heap.setIfInBounds r o }).trans h2, h3⟩
    simp only [Sem.run, hF _ _ hu]
    cases u <;> first | exact hr | exact absurd rfl (hn _ _ _)
  | choose q k ih =>
    cases hq : q.forced with
    | true =>
      obtain ⟨x, w', F', hr, h1, h2, h3⟩ := ih 0 (h 0 (fun _ => rfl) (fun e => by rw [hq] at e; cases e)) hF
      exact ⟨x, w', F', by simp only [Sem.run, hq, if_true]; exact hr, h1, h2, h3⟩
    | false =>
      obtain ⟨x, w', F', hr, h1, h2, h3⟩ := ih (q.cut (w.tape w.drawn q)) (h _ (fun e => by rw [hq] at e; cases e) (fun _ => ⟨_, rfl⟩)) (hF.of_heap (w' := { w with drawn := w.drawn + 1 }) rfl)
      exact ⟨x, w', F', by simp only [Sem.run, hq]; exact hr, h1, (⟨rfl, rfl, rfl, Nat.le_refl _, fun _ h => h⟩ : Rest w { w with drawn := w.drawn + 1 }).trans h2, h3⟩
  | sys c k ih => exact h.elim
  | program k ih =>
    obtain ⟨x, w', F', hr, h1, h2, h3⟩ := ih P h hF
    exact ⟨x, w', F', by simp only [Sem.run]; exact hr, h1, h2, h3⟩
  | mark m k ih =>
    obtain ⟨x, w', F', hr, h1, h2, h3⟩ := ih h hF
    exact ⟨x, w', F', by simp only [Sem.run]; exact hr, h1, h2, h3⟩
  | halt x => exact h.elim

theorem wk_mono {α : Type} {P : Program} {s : Sem α} {F : Heap} {K K' : α → Heap → Prop} (h : wk P s F K) (hk : ∀ a F, K a F → K' a F) : wk P s F K' := by
  induction s generalizing F with
  | pure a => exact hk _ _ h
  | load m a k ih => obtain ⟨v, hv, h⟩ := h; exact ⟨v, hv, ih v h⟩
  | store m a v k ih => obtain ⟨h0, h1, h2, h⟩ := h; exact ⟨h0, h1, h2, ih h⟩
  | new o k ih => exact fun b hb => ih b (h b hb)
  | shape r k ih => obtain ⟨v, hv, h⟩ := h; exact ⟨v, hv, ih v h⟩
  | freeze a n k ih => exact ⟨h.1, ih h.2⟩
  | frozen a k ih => obtain ⟨v, hv, h⟩ := h; exact ⟨v, hv, ih v h⟩
  | getObj r k ih => obtain ⟨v, hv, hn, h⟩ := h; exact ⟨v, hv, hn, ih v h⟩
  | setObj r o k ih => exact ⟨h.1, ih h.2⟩
  | choose q k ih => exact fun n h1 h2 => ih n (h n h1 h2)
  | sys c k ih => exact h.elim
  | program k ih => exact ih P h
  | mark m k ih => exact ih h
  | halt x => exact h.elim
theorem wk_bind {α β : Type} {P : Program} (s : Sem α) (f : α → Sem β) (F : Heap) (K : β → Heap → Prop) : wk P (s >>= f) F K ↔ wk P s F (fun a F' => wk P (f a) F' K) := by
  show wk P (s.bind f) F K ↔ _
  induction s generalizing F with
  | pure a => exact Iff.rfl
  | load m a k ih => simp only [Sem.bind, wk, ih]
  | store m a v k ih => simp only [Sem.bind, wk, ih]
  | new o k ih => simp only [Sem.bind, wk, ih]
  | shape r k ih => simp only [Sem.bind, wk, ih]
  | freeze a n k ih => simp only [Sem.bind, wk, ih]
  | frozen a k ih => simp only [Sem.bind, wk, ih]
  | getObj r k ih => simp only [Sem.bind, wk, ih]
  | setObj r o k ih => simp only [Sem.bind, wk, ih]
  | choose q k ih => simp only [Sem.bind, wk, ih]
  | sys c k ih => exact Iff.rfl
  | program k ih => simp only [Sem.bind, wk, ih]
  | mark m k ih => simp only [Sem.bind, wk, ih]
  | halt x => exact Iff.rfl
end Go.Al

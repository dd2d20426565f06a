/- Texts of this claim, joined: AlBase AlCode AlOps AlVal AlMem AlConv AlWalk AlDraw AlRow AlOpen AlTab. -/
import Derived.Orders
import Derived.Laws.Sem
import Derived.Laws.World
import Derived.Below
import Derived.Scope
import Derived.AtR
import Derived.Laws.Pointers
import Derived.Laws.BytesString
import Derived.Laws.IdiomCopy
import Derived.Laws.Append
import Derived.ChangeArms
import Derived.Deep.Slices
import Derived.DataReads
import Derived.Carry
import Derived.OpenShut
import Derived.Test.YtpbpjmnnbmjmbaaProg
/- The logic of a known part of memory: a finite part F of the heap is known; what an operation's meaning comes to is said by recursion over it ('Sem.wk'), once for all operations; a function's contract ('Fn') says what its call makes of F. It holds for every program. -/
namespace Go.Al
open Go

/-- The part of the heap that is known. -/
abbrev Heap := Nat → Option Obj
def Heap.put (F : Heap) (b : Nat) (o : Obj) : Heap := fun c => if c = b then some o else F c
@[simp] theorem Heap.put_same (F : Heap) (b : Nat) (o : Obj) : F.put b o b = some o := by simp [Heap.put]
theorem Heap.put_other (F : Heap) {b c : Nat} (o : Obj) (h : c ≠ b) : F.put b o c = F c := by simp [Heap.put, h]
/-- What is known of w. -/
def Has (F : Heap) (w : World) : Prop := ∀ b o, F b = some o → w.heap[b]? = some o
theorem Has.lt {F : Heap} {w : World} (h : Has F w) {b : Nat} {o : Obj} (hb : F b = some o) : b < w.heap.size := by
  have := h b o hb
  exact (Array.getElem?_eq_some_iff.1 this).1
theorem Has.fresh {F : Heap} {w : World} (h : Has F w) : F w.heap.size = none := by
  cases hb : F w.heap.size with
  | none => rfl
  | some o => exact absurd (h.lt hb) (by omega)
/-- What isn't the heap stays. -/
structure Rest (w w' : World) : Prop where
  os : w'.os = w.os
  tape : w'.tape = w.tape
  output : w'.output = w.output
  size : w.heap.size ≤ w'.heap.size
  keep : ∀ r : Nat, w.heap[r]? = some (.deferred (some [])) → w'.heap[r]? = some (.deferred (some []))
theorem Rest.refl (w : World) : Rest w w := ⟨rfl, rfl, rfl, Nat.le_refl _, fun _ h => h⟩
theorem Rest.trans {a b c : World} (h : Rest a b) (k : Rest b c) : Rest a c := ⟨k.os.trans h.os, k.tape.trans h.tape, k.output.trans h.output, Nat.le_trans h.size k.size, fun r hr => k.keep r (h.keep r hr)⟩
theorem Rest.modify {w : World} (b : Nat) (f : Obj → Obj) (hf : f (.deferred (some [])) = .deferred (some [])) : Rest w { w with heap := w.heap.modify b f } := by
  refine ⟨rfl, rfl, rfl, by simp, fun r hr => ?_⟩
  show (w.heap.modify b f)[r]? = _
  rw [Array.getElem?_modify]
  split
  · rw [hr, Option.map_some, hf]
  · exact hr
theorem Rest.push (w : World) (o : Obj) : Rest w { w with heap := w.heap.push o } := by
  refine ⟨rfl, rfl, rfl, by simp, fun r hr => ?_⟩
  show (w.heap.push o)[r]? = _
  have : r < w.heap.size := (Array.getElem?_eq_some_iff.1 hr).1
  rw [Array.getElem?_push, if_neg (by omega)]
  exact hr
def Heap.cell? (F : Heap) (a : Addr) : Option Value :=
  match F a.block with
  | some (.cells c _ _) => if a.spot.isSome then none else c[a.off]?
  | _ => none
def Heap.frozen? (F : Heap) (a : Addr) : Option Bool :=
  match F a.block with
  | some (.cells _ _ (lo, hi)) => some (decide (lo ≤ a.off) && decide (a.off < hi))
  | _ => none
def Heap.setCell (F : Heap) (a : Addr) (v : Value) : Heap :=
  match F a.block with
  | some (.cells c e fz) => F.put a.block (.cells (if a.spot.isSome then c else c.setIfInBounds a.off v) e fz)
  | _ => F
def Heap.freeze (F : Heap) (a : Addr) (n : Nat) : Heap :=
  if n = 0 then F else
  match F a.block with
  | some (.cells c e (lo, hi)) => F.put a.block (.cells c e (if lo == hi then (a.off, a.off + n) else (min lo a.off, max hi (a.off + n))))
  | _ => F
def Heap.shape? (F : Heap) (r : Nat) : Option (Option (TypeId × Nat)) :=
  match F r with
  | some (.cells c e _) => some (some (e, c.size))
  | some _ => some none
  | none => none
theorem Has.cell {F : Heap} {w : World} (h : Has F w) {a : Addr} {v : Value} (hc : F.cell? a = some v) : w.cell? a = some v := by
  unfold Heap.cell? at hc
  unfold World.cell?
  split at hc
  · next c e fz hb => rw [h _ _ hb]; exact hc
  · cases hc
theorem Has.put {F : Heap} {w w' : World} (h : Has F w) {b : Nat} {o : Obj} (hb : w'.heap[b]? = some o) (hr : ∀ c, c ≠ b → w'.heap[c]? = w.heap[c]?) : Has (F.put b o) w' := by
  intro c u hu
  by_cases hc : c = b
  · subst hc; rw [Heap.put_same] at hu; rw [hb, hu]
  · rw [Heap.put_other F o hc] at hu; rw [hr c hc]; exact h c u hu
theorem Has.new {F : Heap} {w : World} (h : Has F w) (o : Obj) : Has (F.put w.heap.size o) { w with heap := w.heap.push o } := by
  refine h.put (by simp) (fun c hc => ?_)
  show (w.heap.push o)[c]? = _
  rw [Array.getElem?_push, if_neg (by omega)]
theorem Heap.setCell_of {F : Heap} {a : Addr} {c : Array Value} {e : TypeId} {fz : Nat × Nat} (hb : F a.block = some (.cells c e fz)) (v : Value) : F.setCell a v = F.put a.block (.cells (if a.spot.isSome then c else c.setIfInBounds a.off v) e fz) := by
  unfold Heap.setCell
  rw [hb]
theorem Has.setCell {F : Heap} {w : World} (h : Has F w) {a : Addr} {u : Value} (hc : F.cell? a = some u) (v : Value) : Has (F.setCell a v) (w.setCell a v) := by
  unfold Heap.cell? at hc
  split at hc
  · next c e fz hb =>
    rw [Heap.setCell_of hb]
    have hw := h _ _ hb
    refine h.put ?_ (fun k hk => ?_)
    · simp only [World.setCell, Array.getElem?_modify, if_true, hw, Option.map_some]
    · simp only [World.setCell, Array.getElem?_modify, if_neg (Ne.symm hk)]
  · cases hc
theorem Has.freeze {F : Heap} {w : World} (h : Has F w) {a : Addr} (n : Nat) {c : Array Value} {e : TypeId} {fz : Nat × Nat} (hb : F a.block = some (.cells c e fz)) : Has (F.freeze a n) (w.freeze a n) := by
  unfold Heap.freeze World.freeze
  split
  · exact h
  · obtain ⟨lo, hi⟩ := fz
    simp only [hb]
    refine h.put ?_ (fun k hk => ?_)
    · simp only [Array.getElem?_modify, if_true, h _ _ hb, Option.map_some]
    · simp only [Array.getElem?_modify, if_neg (Ne.symm hk)]
theorem Has.of_heap {F : Heap} {w w' : World} (h : Has F w) (e : w'.heap = w.heap) : Has F w' := fun b o hb => by rw [e]; exact h b o hb

/-- What a meaning comes to over the known part of memory, whatever is drawn. -/
def wk {α : Type} (P : Program) : Sem α → Heap → (α → Heap → Prop) → Prop
  | .pure a, F, K => K a F
  | .load _ a k, F, K => ∃ v, F.cell? a = some v ∧ wk P (k v) F K
  | .store _ a v k, F, K => v.oneCell' = true ∧ (∃ u, F.cell? a = some u) ∧ F.frozen? a = some false ∧ wk P k (F.setCell a v) K
  | .new o k, F, K => ∀ b, F b = none → wk P (k b) (F.put b o) K
  | .shape r k, F, K => ∃ s, F.shape? r = some s ∧ wk P (k s) F K
  | .freeze a n k, F, K => (∃ c e fz, F a.block = some (.cells c e fz)) ∧ wk P k (F.freeze a n) K
  | .frozen a k, F, K => ∃ b, F.frozen? a = some b ∧ wk P (k b) F K
  | .getObj r k, F, K => ∃ o, F r = some o ∧ (∀ c e fz, o ≠ .cells c e fz) ∧ wk P (k o) F K
  | .setObj r o k, F, K => (∃ u, F r = some u ∧ (∀ c e fz, u ≠ .cells c e fz) ∧ ∀ d, u ≠ .deferred d) ∧ wk P k (F.put r o) K
  | .choose q k, F, K => ∀ n, (q.forced = true → n = 0) → (q.forced = false → ∃ t, n = q.cut t) → wk P (k n) F K
  | .sys _ _, _, _ => False
  | .program k, F, K => wk P (k P) F K
  | .mark _ k, F, K => wk P k F K
  | .halt _, _, _ => False

theorem wk_sound {α : Type} {P : Program} {s : Sem α} {F : Heap} {K : α → Heap → Prop} {w : World} (h : wk P s F K) (hF : Has F w) :
    ∃ a w' F', s.run P w = .ok a w' ∧ Has F' w' ∧ Rest w w' ∧ K a F' := by
  induction s generalizing F w with
  | pure a => exact ⟨a, w, F, rfl, hF, Rest.refl w, h⟩
  | load m a k ih =>
    obtain ⟨v, hv, h⟩ := h
    obtain ⟨x, w', F', hr, h1, h2, h3⟩ := ih v h hF
    exact ⟨x, w', F', by simp only [Sem.run, hF.cell hv]; exact hr, h1, h2, h3⟩
  | store m a v k ih =>
    obtain ⟨h0, ⟨u, hu⟩, hz, h⟩ := h
    obtain ⟨x, w', F', hr, h1, h2, h3⟩ := ih h (hF.setCell hu v)
    have hfz : w.frozen? a = false := by
      unfold Heap.frozen? at hz
      unfold World.frozen?
      split at hz
      · next c e lo hi hb => rw [hF _ _ hb]; simpa using hz
      · cases hz
    refine ⟨x, w', F', ?_, h1, (Rest.modify a.block _ rfl : Rest w (w.setCell a v)).trans h2, h3⟩
    cases v <;> first
      | (simp [Value.oneCell'] at h0; done)
      | (simp only [Sem.run, hF.cell hu, hfz]; exact hr)
  | new o k ih =>
    obtain ⟨x, w', F', hr, h1, h2, h3⟩ := ih w.heap.size (h w.heap.size hF.fresh) (hF.new o)
    exact ⟨x, w', F', by simp only [Sem.run]; exact hr, h1, (Rest.push w o).trans h2, h3⟩
  | shape r k ih =>
    obtain ⟨s, hs, h⟩ := h
    obtain ⟨x, w', F', hr, h1, h2, h3⟩ := ih s h hF
    refine ⟨x, w', F', ?_, h1, h2, h3⟩
    have : w.shape? r = s := by
      unfold Heap.shape? at hs
      unfold World.shape?
      split at hs
      · next c e fz hb => rw [hF _ _ hb]; exact Option.some.inj hs
      · next o hn hb =>
        rw [hF _ _ hb]
        cases o <;> first | exact Option.some.inj hs | exact (hn _ _ _ rfl).elim
      · cases hs
    simp only [Sem.run, this]; exact hr
  | freeze a n k ih =>
    obtain ⟨⟨c, e, fz, hb⟩, h⟩ := h
    obtain ⟨x, w', F', hr, h1, h2, h3⟩ := ih h (hF.freeze n hb)
    refine ⟨x, w', F', by simp only [Sem.run]; exact hr, h1, Rest.trans ?_ h2, h3⟩
    unfold World.freeze
    split
    · exact Rest.refl w
    · exact Rest.modify _ _ rfl
  | frozen a k ih =>
    obtain ⟨s, hs, h⟩ := h
    obtain ⟨x, w', F', hr, h1, h2, h3⟩ := ih s h hF
    refine ⟨x, w', F', ?_, h1, h2, h3⟩
    have : w.frozen? a = s := by
      unfold Heap.frozen? at hs
      unfold World.frozen?
      split at hs
      · next c e lo hi hb => rw [hF _ _ hb]; exact Option.some.inj hs
      · cases hs
    simp only [Sem.run, this]; exact hr
  | getObj r k ih =>
    obtain ⟨o, ho, hn, h⟩ := h
    obtain ⟨x, w', F', hr, h1, h2, h3⟩ := ih o h hF
    refine ⟨x, w', F', ?_, h1, h2, h3⟩
    simp only [Sem.run, hF _ _ ho]
    cases o <;> first | exact hr | exact absurd rfl (hn _ _ _)
  | setObj r o k ih =>
    obtain ⟨⟨u, hu, hn, hnd⟩, h⟩ := h
    have hput : Has (F.put r o) { w with heap := w.heap.setIfInBounds r o } := by
      refine hF.put ?_ (fun c hc => ?_)
      · have := hF.lt hu
        simp [this]
      · simp [Ne.symm hc]
    obtain ⟨x, w', F', hr, h1, h2, h3⟩ := ih h hput
    refine ⟨x, w', F', ?_, h1, (⟨rfl, rfl, rfl, by simp, fun q hq => by
      show (w.heap.setIfInBounds r o)[q]? = _
      have hne : r ≠ q := fun e => by subst e; rw [hF _ _ hu] at hq; exact hnd _ (Option.some.inj hq)
      rw [Array.getElem?_setIfInBounds_ne hne]
      exact hq⟩ : Rest w { w with heap := w.heap.setIfInBounds r o }).trans h2, h3⟩
    simp only [Sem.run, hF _ _ hu]
    cases u <;> first | exact hr | exact absurd rfl (hn _ _ _)
  | choose q k ih =>
    cases hq : q.forced with
    | true =>
      obtain ⟨x, w', F', hr, h1, h2, h3⟩ := ih 0 (h 0 (fun _ => rfl) (fun e => by rw [hq] at e; cases e)) hF
      exact ⟨x, w', F', by simp only [Sem.run, hq, if_true]; exact hr, h1, h2, h3⟩
    | false =>
      obtain ⟨x, w', F', hr, h1, h2, h3⟩ := ih (q.cut (w.tape w.drawn q)) (h _ (fun e => by rw [hq] at e; cases e) (fun _ => ⟨_, rfl⟩)) (hF.of_heap (w' := { w with drawn := w.drawn + 1 }) rfl)
      exact ⟨x, w', F', by simp only [Sem.run, hq]; exact hr, h1, (⟨rfl, rfl, rfl, Nat.le_refl _, fun _ h => h⟩ : Rest w { w with drawn := w.drawn + 1 }).trans h2, h3⟩
  | sys c k ih => exact h.elim
  | program k ih =>
    obtain ⟨x, w', F', hr, h1, h2, h3⟩ := ih P h hF
    exact ⟨x, w', F', by simp only [Sem.run]; exact hr, h1, h2, h3⟩
  | mark m k ih =>
    obtain ⟨x, w', F', hr, h1, h2, h3⟩ := ih h hF
    exact ⟨x, w', F', by simp only [Sem.run]; exact hr, h1, h2, h3⟩
  | halt x => exact h.elim

theorem wk_mono {α : Type} {P : Program} {s : Sem α} {F : Heap} {K K' : α → Heap → Prop} (h : wk P s F K) (hk : ∀ a F, K a F → K' a F) : wk P s F K' := by
  induction s generalizing F with
  | pure a => exact hk _ _ h
  | load m a k ih => obtain ⟨v, hv, h⟩ := h; exact ⟨v, hv, ih v h⟩
  | store m a v k ih => obtain ⟨h0, h1, h2, h⟩ := h; exact ⟨h0, h1, h2, ih h⟩
  | new o k ih => exact fun b hb => ih b (h b hb)
  | shape r k ih => obtain ⟨v, hv, h⟩ := h; exact ⟨v, hv, ih v h⟩
  | freeze a n k ih => exact ⟨h.1, ih h.2⟩
  | frozen a k ih => obtain ⟨v, hv, h⟩ := h; exact ⟨v, hv, ih v h⟩
  | getObj r k ih => obtain ⟨v, hv, hn, h⟩ := h; exact ⟨v, hv, hn, ih v h⟩
  | setObj r o k ih => exact ⟨h.1, ih h.2⟩
  | choose q k ih => exact fun n h1 h2 => ih n (h n h1 h2)
  | sys c k ih => exact h.elim
  | program k ih => exact ih P h
  | mark m k ih => exact ih h
  | halt x => exact h.elim
theorem wk_bind {α β : Type} {P : Program} (s : Sem α) (f : α → Sem β) (F : Heap) (K : β → Heap → Prop) : wk P (s >>= f) F K ↔ wk P s F (fun a F' => wk P (f a) F' K) := by
  show wk P (s.bind f) F K ↔ _
  induction s generalizing F with
  | pure a => exact Iff.rfl
  | load m a k ih => simp only [Sem.bind, wk, ih]
  | store m a v k ih => simp only [Sem.bind, wk, ih]
  | new o k ih => simp only [Sem.bind, wk, ih]
  | shape r k ih => simp only [Sem.bind, wk, ih]
  | freeze a n k ih => simp only [Sem.bind, wk, ih]
  | frozen a k ih => simp only [Sem.bind, wk, ih]
  | getObj r k ih => simp only [Sem.bind, wk, ih]
  | setObj r o k ih => simp only [Sem.bind, wk, ih]
  | choose q k ih => simp only [Sem.bind, wk, ih]
  | sys c k ih => exact Iff.rfl
  | program k ih => simp only [Sem.bind, wk, ih]
  | mark m k ih => simp only [Sem.bind, wk, ih]
  | halt x => exact Iff.rfl
end Go.Al
/- The logic of a known part of memory, 2: operations, regions in their own order, statements, functions. It holds for every program. -/
namespace Go.Al
open Go

/-- What is known stays known. -/
def Ext (F F' : Heap) : Prop := ∀ b o, F b = some o → F' b = some o

theorem Ext.refl (F : Heap) : Ext F F := fun _ _ h => h
theorem Ext.trans {F G H : Heap} (h : Ext F G) (k : Ext G H) : Ext F H := fun b o hb => k b o (h b o hb)
theorem Ext.put {F G : Heap} (h : Ext F G) {b : Nat} (hb : F b = none) (o : Obj) : Ext F (G.put b o) := fun c u hu => by
  by_cases hc : c = b
  · subst hc; rw [hb] at hu; cases hu
  · rw [Heap.put_other G o hc]; exact h c u hu
theorem Ext.cell {F G : Heap} (h : Ext F G) {a : Addr} {v : Value} (hc : F.cell? a = some v) : G.cell? a = some v := by
  unfold Heap.cell? at hc ⊢
  split at hc
  · next c e fz hb => rw [h _ _ hb]; exact hc
  · cases hc

/-- A call of f enters its body. -/
def Enters (P : Program) (f : FuncId) : Prop := ∃ fn, P.funcs[f]? = some fn ∧ (fn.name == "runtime.NumGoroutine") = false ∧ fn.body.isNone = false
/-- A function's contract: over what is known of memory. -/
def FnK (P : Program) (f : FuncId) (args : Array Value) (F : Heap) (R : Value → Heap → Prop) : Prop :=
  Enters P f ∧ ∀ w, Has F w → Calls P f args w fun e w' => ∃ v F', e = .returned v ∧ Has F' w' ∧ Rest w w' ∧ R v F'
theorem FnK.mono {P : Program} {f : FuncId} {args : Array Value} {F : Heap} {R R' : Value → Heap → Prop} (h : FnK P f args F R) (hr : ∀ v F', R v F' → R' v F') : FnK P f args F R' :=
  ⟨h.1, fun w hw => (h.2 w hw).mono fun _ _ ⟨v, F', h1, h2, h3, h4⟩ => ⟨v, F', h1, h2, h3, hr _ _ h4⟩⟩

theorem beq_ne {a b : Nat} (h : a ≠ b) : Nat.beq a b = false := by
  cases e : Nat.beq a b with
  | false => rfl
  | true => exact absurd (Nat.eq_of_beq_eq_true e) h
abbrev Env := Nat → Value
def Env.set (env : Env) (d : Option Tmp) (v : Value) : Env :=
  match d with
  | some d => fun t => bif Nat.beq t d then v else env t
  | none => env
def Env.ev (env : Env) : Operand → Value
  | .tmp t => env t
  | .const v => v
  | .global g => .pointer (some ⟨g, 0, none⟩)
  | .func f => .func (.func f) #[] #[]
/-- The temporaries are as told. -/
structure Ag (n : Nat) (env : Env) (a : Act) : Prop where
  size : a.tmps.size = n
  tmp : ∀ t, a.tmps.getD t undef = env t
/-- The calls that are put off: none; or (m) those that ranges over functions have left, each with an empty block of its own, from N on. -/
def Held (m : Bool) (N : Nat) (ds : List Deferred) (w : World) : Prop :=
  match m with
  | false => ds = []
  | true => ∃ ms : List Nat, ds = ms.map (fun r => ({ target := .collected r, args := #[] } : Deferred)) ∧ ms.Nodup ∧ ∀ r ∈ ms, N ≤ r ∧ w.heap[r]? = some (.deferred (some []))
theorem Held.mono {m : Bool} {N : Nat} {ds : List Deferred} {w w' : World} (h : Held m N ds w) (hr : Rest w w') : Held m N ds w' := by
  cases m with
  | false => exact h
  | true =>
    obtain ⟨ms, h1, h2, h3⟩ := h
    exact ⟨ms, h1, h2, fun r hm => ⟨(h3 r hm).1, hr.keep r (h3 r hm).2⟩⟩
theorem Held.nil (m : Bool) (N : Nat) (w : World) : Held m N [] w := by
  cases m with
  | false => exact rfl
  | true => exact ⟨[], rfl, List.nodup_nil, fun r h => by cases h⟩
theorem put_defers (a : Act) (d : Option Tmp) (v : Value) : (a.put d v).defers = a.defers := by unfold Act.put; split <;> rfl
theorem Ag.eval {n : Nat} {env : Env} {a : Act} (h : Ag n env a) : a.eval = env.ev := by
  funext x
  cases x <;> simp only [Act.eval, Env.ev]
  exact h.tmp _
def dstOk (n : Nat) (o : Oper) : Bool := match o.dst with | some d => Nat.blt d n | none => true
theorem Ag.put {n : Nat} {env : Env} {a : Act} (h : Ag n env a) {o : Oper} (hd : dstOk n o = true) (v : Value) : Ag n (env.set o.dst v) (a.put o.dst v) := by
  unfold dstOk at hd
  cases hdst : o.dst with
  | none => simpa [Act.put, Env.set] using h
  | some d =>
    rw [hdst] at hd
    have hlt : d < n := by simpa [Nat.blt_eq] using hd
    refine ⟨by simp [Act.put, h.size], fun t => ?_⟩
    have hs := h.size
    simp only [Act.put, Env.set]
    by_cases ht : t = d
    · subst ht
      simp [Array.getD_eq_getD_getElem?, hs, hlt]
    · have hb : Nat.beq t d = false := beq_ne ht
      rw [hb, cond_false, ← h.tmp t]
      simp [Array.getD_eq_getD_getElem?, Ne.symm ht]

/-- What an operation comes to. -/
def nextK (P : Program) (K : Value → Heap → Prop) (nx : Next) (F' : Heap) : Prop :=
  match nx with
  | .value v => K v F'
  | .skip => K undef F'
  | .enter f args => FnK P f args F' K
  | _ => False
def opW (P : Program) (o : Oper) (ev : Operand → Value) (F : Heap) (K : Value → Heap → Prop) : Prop :=
  ∀ w, Has F w → ∃ nx w' F', (execOp ev o).run P w = .ok nx w' ∧ Has F' w' ∧ Rest w w' ∧ nextK P K nx F'
theorem opW_wk {P : Program} {o : Oper} {ev : Operand → Value} {F : Heap} {K : Value → Heap → Prop} (h : wk P (execOp ev o) F (nextK P K)) : opW P o ev F K := fun _ hw => wk_sound h hw
theorem opW_mono {P : Program} {o : Oper} {ev : Operand → Value} {F : Heap} {K K' : Value → Heap → Prop} (h : opW P o ev F K) (hk : ∀ v F', K v F' → K' v F') : opW P o ev F K' := by
  intro w hw
  obtain ⟨nx, w', F', h1, h2, h3, hn⟩ := h w hw
  refine ⟨nx, w', F', h1, h2, h3, ?_⟩
  cases nx <;> first | exact hk _ _ hn | exact FnK.mono (P := P) hn hk | exact (hn : False).elim
theorem opW_sound {P : Program} {o : Oper} {n : Nat} {env : Env} {a : Act} {F : Heap} {w : World} {K : Value → Heap → Prop} {next : Act → World → Prop} {Q : Exit → Act → World → Prop}
    (h : opW P o env.ev F K) (ha : Ag n env a) (hw : Has F w) (hn : ∀ v F' w', K v F' → Has F' w' → Rest w w' → next (a.put o.dst v) w') : o.wp P a w next Q := by
  obtain ⟨nx, w', F', hr, h1, h2, h3⟩ := h w hw
  unfold Oper.wp
  rw [ha.eval, hr]
  cases nx with
  | value v => exact hn v F' w' h3 h1 h2
  | skip => exact hn undef F' w' h3 h1 h2
  | enter f args =>
    refine Calls.mono (h3.2 w' h1) ?_
    rintro e w'' ⟨v, F'', rfl, g1, g2, g3⟩
    exact hn v F'' w'' g3 g1 (h2.trans g2)
  | _ => exact (h3 : False).elim

def yieldedE (ops : Array Oper) (env : Env) (j : Nat) : Option Bool :=
  match (ops[j]?).bind (·.dst) with
  | some t => match env t with | .bool b => some b | _ => none
  | none => none
theorem yielded_of {ops : Array Oper} {n : Nat} {env : Env} {a : Act} (h : Ag n env a) (j : Nat) : yielded ops a.tmps j = yieldedE ops env j := by
  unfold yielded yieldedE
  cases (ops[j]?).bind (·.dst) with
  | none => rfl
  | some t =>
    simp only [Option.bind_some]
    rw [← h.tmp t, Array.getD_eq_getD_getElem?]
    cases a.tmps[t]? with
    | none => rfl
    | some v => simp only [Option.getD_some]; cases v <;> rfl
/-- A yield: what a round of the loop makes of memory. -/
structure YieldK (P : Program) (l : Nat) (args : Array Value) (F : Heap) (K : Value → Heap → Prop) : Prop where
  out : ∀ w, Has F w → ∃ fn tmps assign body, (Instr.yield l args).run P w = .ok (.round l fn tmps assign body) w ∧
    ∀ (c : Frame) (cs : List Frame), ∃ v w' F', Steps P (lone (Frame.round l fn tmps assign body .normal) (c :: cs) w) (lone (c.finish v) cs w') ∧ Has F' w' ∧ Rest w w' ∧ K v F'
/-- What an operation comes to, a yield too. -/
def opV (P : Program) (o : Oper) (ev : Operand → Value) (F : Heap) (K : Value → Heap → Prop) : Prop :=
  opW P o ev F K ∨ ∃ f args ts l, o.op = .call ⟨.value f, args, ts⟩ ∧ ev f = .func (.yield l) #[] #[] ∧ YieldK P l (args.map ev) F K
theorem opV_mono {P : Program} {o : Oper} {ev : Operand → Value} {F : Heap} {K K' : Value → Heap → Prop} (h : opV P o ev F K) (hk : ∀ v F', K v F' → K' v F') : opV P o ev F K' := by
  rcases h with h | ⟨f, args, ts, l, h1, h2, h3⟩
  · exact .inl (opW_mono h hk)
  · refine .inr ⟨f, args, ts, l, h1, h2, ⟨fun w hw => ?_⟩⟩
    obtain ⟨fn, tmps, x, y, h4, h5⟩ := h3.out w hw
    refine ⟨fn, tmps, x, y, h4, fun c cs => ?_⟩
    obtain ⟨v, w', F', g1, g2, g3, g4⟩ := h5 c cs
    exact ⟨v, w', F', g1, g2, g3, hk _ _ g4⟩
section
variable {P : Program} {b : Frame} {a : Act} {k : List Item} {cs : List Frame} {w : World} {ops : Array Oper}
theorem finish_atR (i : Nat) (rest : List Nat) (v : Value) : (b.atR a (.inRegion ops (i :: rest) :: k)).finish v = b.atR (a.put ((ops[i]?).bind (·.dst)) v) (.inRegion ops rest :: k) := by
  cases h : (ops[i]?).bind (·.dst) <;> simp [Frame.finish, Frame.atR, Act.put, h]
theorem stepR_region_end : step P (lone (b.atR a (.inRegion ops [] :: k)) cs w) = .next (lone (b.atR a k) cs w) :=
  step_lone_go (by simp [stepG, stepG.exec, Frame.atR])
theorem stepR_skip {i : Nat} {rest : List Nat} (h : ((ops[i]?).map (Region.wanted · (yielded ops a.tmps))).getD false = false) :
    step P (lone (b.atR a (.inRegion ops (i :: rest) :: k)) cs w) = .next (lone (b.atR (a.put ((ops[i]?).bind (·.dst)) undef) (.inRegion ops rest :: k)) cs w) := by
  rw [← finish_atR]
  exact step_lone_go (by
    have h' := h
    simp only [Frame.atR] at *
    simp [stepG, stepG.exec, h'])
theorem stepGR_op {i : Nat} {rest : List Nat} {o : Oper} (ho : ops[i]? = some o) (hw : Region.wanted o (yielded ops a.tmps) = true) (hd : ∀ c, o.op ≠ .defer c) :
    stepG P true { frame := b.atR a (.inRegion ops (i :: rest) :: k), callers := cs, status := .running, dying := none } w = stepG.apply P true (b.atR a (.inRegion ops (i :: rest) :: k)) cs none (execOp a.eval o) w := by
  have he := Frame.eval_atR b a (.inRegion ops (i :: rest) :: k)
  simp only [Frame.atR] at he
  cases hr : b.roundOf with
  | none =>
    rw [hr] at he
    simp [stepG, stepG.exec, stepG.oper, Frame.oper?, Frame.atR, ho, hw, he, hr]
  | some l =>
    rw [hr] at he
    cases hop : o.op <;> first
      | exact absurd hop (hd _)
      | simp [stepG, stepG.exec, stepG.oper, Frame.oper?, Frame.atR, ho, hw, he, hr, hop]
end
theorem opV_steps {P : Program} {ops : Array Oper} {i : Nat} {o : Oper} (ho : ops[i]? = some o) {n : Nat} {env : Env} {a : Act} {F : Heap} {w : World} {K : Value → Heap → Prop} (hwant : Region.wanted o (yielded ops a.tmps) = true)
    (h : opV P o env.ev F K) (ha : Ag n env a) (hw : Has F w) (b : Frame) (rest : List Nat) (k : List Item) (cs : List Frame) :
    ∃ v w' F', Steps P (lone (b.atR a (.inRegion ops (i :: rest) :: k)) cs w) (lone (b.atR (a.put o.dst v) (.inRegion ops rest :: k)) cs w') ∧ Has F' w' ∧ Rest w w' ∧ K v F' := by
  have hfin : ∀ v, (b.atR a (.inRegion ops (i :: rest) :: k)).finish v = b.atR (a.put o.dst v) (.inRegion ops rest :: k) := by
    intro v; rw [finish_atR, ho]; rfl
  rcases h with h | ⟨f, args, ts, l, h1, h2, h3⟩
  · obtain ⟨nx, w', F', hr, g1, g2, g3⟩ := h w hw
    have hd : ∀ c, o.op ≠ .defer c := by
      intro c hc
      have : execOp env.ev o = (do pure (.defer (← resolve env.ev c o.type))) := by simp only [execOp, hc]
      rw [this, Sem.run_bind] at hr
      cases hres : (resolve env.ev c o.type).run P w with
      | ok d w1 => rw [hres, Result.andThen_ok, Sem.run_pure] at hr; injection hr with e1 e2; subst e1; exact g3
      | halt x w1 => rw [hres] at hr; cases hr
    rw [← ha.eval] at hr
    have hg := stepGR_op (P := P) (b := b) (k := k) (cs := cs) (w := w) (rest := rest) ho hwant hd
    cases nx with
    | value v =>
      refine ⟨v, w', F', .one (step_lone_go ?_), g1, g2, g3⟩
      rw [hg, ← hfin]; simp [stepG.apply, hr]
    | skip =>
      refine ⟨undef, w', F', .one (step_lone_go ?_), g1, g2, g3⟩
      rw [hg, ← hfin]; simp [stepG.apply, hr]
    | enter f args =>
      obtain ⟨e, w'', fr, ⟨v, F'', rfl, q1, q2, q3⟩, hsteps, _, hleave⟩ := g3.2 w' g1 (b.atR a (.inRegion ops (i :: rest) :: k) :: cs)
      have henter : step P (lone (b.atR a (.inRegion ops (i :: rest) :: k)) cs w) = .next (lone (Frame.enter P f args .normal) (b.atR a (.inRegion ops (i :: rest) :: k) :: cs) w') :=
        step_lone_go (by rw [hg]; simp [stepG.apply, hr, Frame.atR])
      refine ⟨v, w'', F'', .head henter (Steps.trans hsteps (.one ?_)), q1, g2.trans q2, q3⟩
      rw [← hfin]; exact step_leave_returned hleave
    | _ => exact (g3 : False).elim
  · obtain ⟨fn, tmps, x, y, h4, h5⟩ := h3.out w hw
    have hd : ∀ c, o.op ≠ .defer c := fun c hc => by rw [h1] at hc; cases hc
    have hg := stepGR_op (P := P) (b := b) (k := k) (cs := cs) (w := w) (rest := rest) ho hwant hd
    have hr : (execOp a.eval o).run P w = .ok (.round l fn tmps x y) w := by
      rw [ha.eval]
      have : execOp env.ev o = Instr.yield l (args.map env.ev) := by
        simp only [execOp, h1, resolve, h2, Deferred.ofValue, invoke]
        simp
      rw [this, h4]
    obtain ⟨v, w', F', g1, g2, g3, g4⟩ := h5 (b.atR a (.inRegion ops (i :: rest) :: k)) cs
    have henter : step P (lone (b.atR a (.inRegion ops (i :: rest) :: k)) cs w) = .next (lone (Frame.round l fn tmps x y .normal) (b.atR a (.inRegion ops (i :: rest) :: k) :: cs) w) :=
      step_lone_go (by rw [hg]; simp [stepG.apply, hr, Frame.atR])
    refine ⟨v, w', F', .head henter ?_, g2, g3, g4⟩
    rw [← hfin]; exact g1

/-- Operations in their own order. -/
def opsW (P : Program) (all : Array Oper) (K : Env → Heap → Prop) : List Oper → Env → Heap → Prop
  | [], env, F => K env F
  | o :: rest, env, F =>
    match o.guard with
    | none => opV P o env.ev F fun v F' => opsW P all K rest (env.set o.dst v) F'
    | some (j, want) => match yieldedE all env j with
      | some b => (b = want → opV P o env.ev F fun v F' => opsW P all K rest (env.set o.dst v) F') ∧ (b = !want → opsW P all K rest (env.set o.dst undef) F)
      | none => opsW P all K rest (env.set o.dst undef) F

/-- The exits of a statement, lifted. -/
def up (m : Bool) (n : Nat) (w0 : World) (Q : Exit → Env → Heap → Prop) : Exit → Act → World → Prop :=
  fun e a w => ∃ env F, Ag n env a ∧ Held m w0.heap.size a.defers w ∧ Has F w ∧ Rest w0 w ∧ Q e env F

theorem opsW_arr {P : Program} {ops : Array Oper} {m : Bool} {n : Nat} {K : Env → Heap → Prop} {w0 : World} (hd : ∀ o ∈ ops.toList, dstOk n o = true) :
    ∀ (l : List Oper) (j : Nat), ops.toList.drop j = l → ∀ (env : Env) (F : Heap) (a : Act) (w : World), opsW P ops K l env F → Ag n env a → Held m w0.heap.size a.defers w → Has F w → Rest w0 w →
      ∀ (b : Frame) (k : List Item) (cs : List Frame), ∃ env' F' a' w', Steps P (lone (b.atR a (.inRegion ops (List.range' j l.length) :: k)) cs w) (lone (b.atR a' k) cs w') ∧ Ag n env' a' ∧ Held m w0.heap.size a'.defers w' ∧ Has F' w' ∧ Rest w0 w' ∧ K env' F' := by
  intro l
  induction l with
  | nil => intro j _ env F a w h ha hh hw hr b k cs; exact ⟨env, F, a, w, .one stepR_region_end, ha, hh, hw, hr, h⟩
  | cons o rest ih =>
    intro j hj env F a w h ha hh hw hr b k cs
    have ho : ops[j]? = some o := by
      have : ops.toList[j]? = some o := by rw [← List.head?_drop, hj]; rfl
      simpa using this
    have hrest : ops.toList.drop (j + 1) = rest := by rw [← List.tail_drop, hj]; rfl
    have hdo : dstOk n o = true := hd o (by rw [← List.take_append_drop j ops.toList, hj]; simp)
    rw [List.length_cons, List.range'_succ]
    have run : Region.wanted o (yielded ops a.tmps) = true → opV P o env.ev F (fun v F' => opsW P ops K rest (env.set o.dst v) F') → ∃ env' F' a' w', Steps P (lone (b.atR a (.inRegion ops (j :: List.range' (j + 1) rest.length) :: k)) cs w) (lone (b.atR a' k) cs w') ∧ Ag n env' a' ∧ Held m w0.heap.size a'.defers w' ∧ Has F' w' ∧ Rest w0 w' ∧ K env' F' := by
      intro hwant h
      obtain ⟨v, w1, F1, g1, g2, g3, g4⟩ := opV_steps ho hwant h ha hw b (List.range' (j + 1) rest.length) k cs
      obtain ⟨env', F', a', w', q1, q2⟩ := ih (j + 1) hrest _ _ _ _ g4 (ha.put hdo v) (by rw [put_defers]; exact hh.mono g3) g2 (hr.trans g3) b k cs
      exact ⟨env', F', a', w', Steps.trans g1 q1, q2⟩
    have skp : Region.wanted o (yielded ops a.tmps) = false → opsW P ops K rest (env.set o.dst undef) F → ∃ env' F' a' w', Steps P (lone (b.atR a (.inRegion ops (j :: List.range' (j + 1) rest.length) :: k)) cs w) (lone (b.atR a' k) cs w') ∧ Ag n env' a' ∧ Held m w0.heap.size a'.defers w' ∧ Has F' w' ∧ Rest w0 w' ∧ K env' F' := by
      intro hwant h
      obtain ⟨env', F', a', w', q1, q2⟩ := ih (j + 1) hrest _ _ _ _ h (ha.put hdo undef) (by rw [put_defers]; exact hh) hw hr b k cs
      have hs := stepR_skip (P := P) (b := b) (a := a) (k := k) (cs := cs) (w := w) (ops := ops) (i := j) (rest := List.range' (j + 1) rest.length) (by simp [ho, hwant])
      rw [ho] at hs
      exact ⟨env', F', a', w', .head hs q1, q2⟩
    simp only [opsW] at h
    cases hg : o.guard with
    | none =>
      simp only [hg] at h
      exact run (by simp [Region.wanted, hg]) h
    | some jw =>
      obtain ⟨jj, want⟩ := jw
      simp only [hg] at h
      have hW : Region.wanted o (yielded ops a.tmps) = (yieldedE ops env jj == some want) := by simp [Region.wanted, hg, yielded_of ha]
      cases hy : yieldedE ops env jj with
      | none =>
        simp only [hy] at h hW
        exact skp (by rw [hW]; simp) h
      | some bb =>
        simp only [hy] at h hW
        by_cases hb : bb = want
        · exact run (by rw [hW]; simp [hb]) (h.1 hb)
        · exact skp (by rw [hW]; simp [hb]) (h.2 (by cases bb <;> cases want <;> simp_all))

/-- A drawn region: its own theory gives its meaning (AlDraw). Here: whatever makes every order come to Q. -/
def DrawW (P : Program) (ops : Array Oper) (K : Env → Heap → Prop) (env : Env) (F : Heap) : Prop :=
  ∀ (m : Bool) (n : Nat) (a : Act) (w w0 : World) (id : Nat) (Q : Exit → Env → Heap → Prop), (∀ o ∈ ops.toList, dstOk n o = true) → (∀ env F, K env F → Q .normal env F) → Ag n env a → Held m w0.heap.size a.defers w → Has F w → Rest w0 w → (Code.region id ops true).wp P (up m n w0 Q) a w

/-- A range over a function: told by what a round and the call of the function make of memory. -/
def RangeW (P : Program) (f : Operand) (ps : Array Tmp) (x y : Code) (Q : Exit → Env → Heap → Prop) (ok : Nat → Bool) (env : Env) (F : Heap) : Prop :=
  ∀ (n : Nat) (a : Act) (w w0 : World), ok n = true → Ag n env a → Held true w0.heap.size a.defers w → Has F w → Rest w0 w → (Code.rangeFunc f ps x y).wp P (up true n w0 Q) a w
def okDst (m : Bool) (n : Nat) : Code → Bool
  | .region _ ops _ => ops.toList.all (dstOk n)
  | .seq a b => okDst m n a && okDst m n b
  | .cond _ a b => okDst m n a && okDst m n b
  | .block _ c | .loop c | .scope c => okDst m n c
  | .rangeFunc _ ps a b => m && (ps.toList.all (fun t => Nat.blt t n) && (okDst m n a && okDst m n b))
  | _ => true
def thenE (K : Env → Heap → Prop) (Q : Exit → Env → Heap → Prop) : Exit → Env → Heap → Prop
  | .normal, env, F => K env F
  | e, env, F => Q e env F
def blockE (id : Nat) (Q : Exit → Env → Heap → Prop) : Exit → Env → Heap → Prop
  | .exit i, env, F => bif Nat.beq i id then Q .normal env F else Q (.exit i) env F
  | e, env, F => Q e env F
def scopeE (Q : Exit → Env → Heap → Prop) : Exit → Env → Heap → Prop
  | .goto _, _, _ => False
  | e, env, F => Q e env F
/-- What a statement comes to. -/
def codeW (P : Program) : Code → (Exit → Env → Heap → Prop) → Env → Heap → Prop
  | .skip, Q, env, F => Q .normal env F
  | .label _, Q, env, F => Q .normal env F
  | .region _ ops draw, Q, env, F => if draw then DrawW P ops (Q .normal) env F else opsW P ops (Q .normal) ops.toList env F
  | .seq a b, Q, env, F => codeW P a (thenE (codeW P b Q) Q) env F
  | .cond c a b, Q, env, F => match env.ev c with
    | .bool t => (t = true → codeW P a Q env F) ∧ (t = false → codeW P b Q env F)
    | _ => False
  | .block id c, Q, env, F => codeW P c (blockE id Q) env F
  | .loop c, Q, env, F => ∃ (I : Nat → Env → Heap → Prop) (m : Nat), I m env F ∧ ∀ m env F, I m env F → codeW P c (thenE (fun env' F' => ∃ m', m' < m ∧ I m' env' F') Q) env F
  | .scope c, Q, env, F => codeW P c (scopeE Q) env F
  | .exit id, Q, env, F => Q (.exit id) env F
  | .ret, Q, env, F => Q .ret env F
  | .rangeFunc f ps x y, Q, env, F => RangeW P f ps x y Q (fun n => okDst true n (.rangeFunc f ps x y)) env F
  | _, _, _, _ => False

theorem wp_loop_ix {P : Program} {c : Code} {Q : Exit → Act → World → Prop} {a : Act} {w : World} (J : Nat → Act → World → Prop) (m : Nat) (h0 : J m a w)
    (round : ∀ m a w, J m a w → c.wp P (Exit.then (fun a' w' => ∃ m', m' < m ∧ J m' a' w') Q) a w) : (Code.loop c).wp P Q a w := by
  intro b k cs
  have key : ∀ n a w, J n a w → ∃ e a' w', Q e a' w' ∧ Arrives P (lone (b.at a (.code c :: .inLoop c :: k)) cs w) b k cs e a' w' := by
    intro n
    induction n using Nat.strongRecOn with
    | _ n ih =>
      intro a w hI
      obtain ⟨e, a₁, w₁, hq, harr⟩ := round n a w hI b (.inLoop c :: k) cs
      cases e with
      | normal =>
        obtain ⟨m', hlt, hI₁⟩ := hq
        obtain ⟨e₂, a₂, w₂, hq₂, harr₂⟩ := ih m' hlt a₁ w₁ hI₁
        exact ⟨e₂, a₂, w₂, hq₂, .of_steps (Steps.trans harr (.one step_inLoop)) harr₂⟩
      | exit id => exact ⟨_, a₁, w₁, hq, .pass (x := .inLoop c) rfl (fun _ _ => .inl (by simp)) harr⟩
      | goto l => exact ⟨_, a₁, w₁, hq, .pass (x := .inLoop c) rfl (fun _ _ => .inl (by simp)) harr⟩
      | ret => exact ⟨_, a₁, w₁, hq, .pass (x := .inLoop c) rfl (fun _ _ => .inl (by simp)) harr⟩
      | panic ch => exact ⟨_, a₁, w₁, hq, .pass (x := .inLoop c) rfl (fun _ _ => .inl (by simp)) harr⟩
      | outgrown => exact ⟨_, a₁, w₁, hq, .pass (x := .inLoop c) rfl (fun _ _ => .inl (by simp)) harr⟩
  obtain ⟨e, a', w', hq, harr⟩ := key _ a w h0
  exact ⟨e, a', w', hq, .of_steps (.one step_loop) harr⟩

theorem codeW_sound {P : Program} {m : Bool} {n : Nat} : ∀ (c : Code) (Q : Exit → Env → Heap → Prop) (env : Env) (F : Heap) (a : Act) (w0 w : World), okDst m n c = true → codeW P c Q env F → Ag n env a → Held m w0.heap.size a.defers w → Has F w → Rest w0 w → c.wp P (up m n w0 Q) a w := by
  intro c
  induction c with
  | skip => intro Q env F a w0 w _ h ha hh hw hr; exact wp_skip ⟨env, F, ha, hh, hw, hr, h⟩
  | label l => intro Q env F a w0 w _ h ha hh hw hr; exact wp_label ⟨env, F, ha, hh, hw, hr, h⟩
  | exit id => intro Q env F a w0 w _ h ha hh hw hr; exact wp_exit ⟨env, F, ha, hh, hw, hr, h⟩
  | ret => intro Q env F a w0 w _ h ha hh hw hr; exact wp_ret ⟨env, F, ha, hh, hw, hr, h⟩
  | goto l => intro Q env F a w0 w _ h; exact h.elim
  | refuse l => intro Q env F a w0 w _ h; exact h.elim
  | rangeFunc f ps x y =>
    intro Q env F a w0 w hd h ha hh hw hr
    cases m with
    | false => simp [okDst] at hd
    | true => exact h n a w w0 hd ha hh hw hr
  | region id ops draw =>
    intro Q env F a w0 w hd h ha hh hw hr
    have hd' : ∀ o ∈ ops.toList, dstOk n o = true := List.all_eq_true.1 hd
    simp only [codeW] at h
    cases draw with
    | true => exact h m n a w w0 id Q hd' (fun _ _ h => h) ha hh hw hr
    | false =>
      intro b k cs
      obtain ⟨env', F', a', w', g1, g2⟩ := opsW_arr (m := m) (w0 := w0) hd' ops.toList 0 rfl env F a w h ha hh hw hr { b with roundOf := none } k cs
      have hat : ∀ (a : Act) (t : List Item), ({ b with roundOf := none } : Frame).atR a t = b.at a t := fun _ _ => rfl
      rw [hat, hat] at g1
      refine ⟨.normal, a', w', ⟨env', F', g2⟩, Steps.trans (.one step_region) ?_⟩
      rw [List.range_eq_range']
      simpa using g1
  | seq x y ihx ihy =>
    intro Q env F a w0 w hd h ha hh hw hr
    simp only [okDst, Bool.and_eq_true] at hd
    refine wp_seq (wp_mono (ihx _ env F a w0 w hd.1 h ha hh hw hr) ?_)
    rintro e a' w' ⟨env', F', h1, h0, h2, h3, h4⟩
    cases e <;> first | exact ihy Q env' F' a' w0 w' hd.2 h4 h1 h0 h2 h3 | exact ⟨env', F', h1, h0, h2, h3, h4⟩
  | cond x y z ihy ihz =>
    intro Q env F a w0 w hd h ha hh hw hr
    simp only [okDst, Bool.and_eq_true] at hd
    simp only [codeW] at h
    split at h
    · next t ht =>
      have hc : a.eval x = .bool t := by rw [ha.eval]; exact ht
      exact wp_cond_split hc (fun e => ihy Q env F a w0 w hd.1 (h.1 e) ha hh hw hr) (fun e => ihz Q env F a w0 w hd.2 (h.2 e) ha hh hw hr)
    · exact h.elim
  | block id c ih =>
    intro Q env F a w0 w hd h ha hh hw hr
    refine wp_block (wp_mono (ih _ env F a w0 w hd h ha hh hw hr) ?_)
    rintro e a' w' ⟨env', F', h1, h0, h2, h3, h4⟩
    cases e <;> simp only [blockE] at h4 <;> simp only [Exit.inBlock]
    case exit i =>
      by_cases hi : i = id
      · subst hi
        rw [if_pos rfl]
        rw [Nat.beq_refl, cond_true] at h4
        exact ⟨env', F', h1, h0, h2, h3, h4⟩
      · rw [if_neg hi]
        have hb : Nat.beq i id = false := beq_ne hi
        rw [hb, cond_false] at h4
        exact ⟨env', F', h1, h0, h2, h3, h4⟩
    all_goals exact ⟨env', F', h1, h0, h2, h3, h4⟩
  | scope c ih =>
    intro Q env F a w0 w hd h ha hh hw hr
    refine wp_scope_straight (wp_mono (ih _ env F a w0 w hd h ha hh hw hr) ?_)
    rintro e a' w' ⟨env', F', h1, h0, h2, h3, h4⟩
    cases e <;> first | exact ⟨env', F', h1, h0, h2, h3, h4⟩ | exact h4
  | loop c ih =>
    intro Q env F a w0 w hd h ha hh hw hr
    obtain ⟨I, i0, h0, hround⟩ := h
    refine wp_loop_ix (fun i a w => ∃ env F, Ag n env a ∧ Held m w0.heap.size a.defers w ∧ Has F w ∧ Rest w0 w ∧ I i env F) i0 ⟨env, F, ha, hh, hw, hr, h0⟩ ?_
    rintro i a w ⟨env, F, ha, hh, hw, hr, hI⟩
    refine wp_mono (ih _ env F a w0 w hd (hround i env F hI) ha hh hw hr) ?_
    rintro e a' w' ⟨env', F', h1, h0, h2, h3, h4⟩
    cases e with
    | normal =>
      obtain ⟨m', hm, hI'⟩ := h4
      exact ⟨m', hm, env', F', h1, h0, h2, h3, hI'⟩
    | _ => exact ⟨env', F', h1, h0, h2, h3, h4⟩

/-- What a function hands back. -/
structure ResK (P : Program) (F : Heap) (x : Value) (t : TypeId) (K : Value → Prop) : Prop where
  out : ∃ v, (∀ w, Has F w → (asAddr x >>= fun a => loadVar t a).run P w = .ok v w) ∧ K v
def retL (P : Program) (env : Env) (F : Heap) : List ResultVar → List Value → (List Value → Prop) → Prop
  | [], acc, K => K acc
  | .tmp t :: rs, acc, K => retL P env F rs (acc ++ [env t]) K
  | .cell a t :: rs, acc, K => ResK P F (env a) t fun v => retL P env F rs (acc ++ [v]) K
def oneV : List Value → Value
  | [v] => v
  | vs => .tuple vs.toArray
def retV (P : Program) (env : Env) (F : Heap) (rs : List ResultVar) (R : Value → Prop) : Prop :=
  match rs with
  | [.tmp t] => R (env t)
  | [] => R (.tuple #[])
  | [.tmp s, .tmp t] => R (.tuple #[env s, env t])
  | [.tmp s, .tmp t, .tmp u] => R (.tuple #[env s, env t, env u])
  | [.tmp s, .tmp t, .tmp u, .tmp x] => R (.tuple #[env s, env t, env u, env x])
  | rs => retL P env F rs [] fun vs => R (oneV vs)
def retE (P : Program) (fn : Func) (R : Value → Heap → Prop) : Exit → Env → Heap → Prop
  | .normal, env, F => retV P env F fn.results.toList (fun v => R v F)
  | .ret, env, F => retV P env F fn.results.toList (fun v => R v F)
  | _, _, _ => False
theorem retL_run {P : Program} {n : Nat} {env : Env} {F : Heap} {a : Act} {w : World} (ha : Ag n env a) (hw : Has F w) (f : ResultVar → Sem Value) (hf : ∀ x, f x = match x with
    | .tmp t => pure (a.tmps.getD t undef)
    | .cell b t => do loadVar t (← asAddr (a.tmps.getD b undef))) : ∀ (l : List ResultVar) (acc : List Value) (K : List Value → Prop), retL P env F l acc K → ∃ vs, (l.mapM f).run P w = .ok vs w ∧ K (acc ++ vs) := by
  intro l
  induction l with
  | nil => intro acc K h; exact ⟨[], by simp [Sem.run_pure], by rw [List.append_nil]; exact h⟩
  | cons r l ih =>
    intro acc K h
    cases r with
    | tmp t =>
      obtain ⟨vs, h1, h2⟩ := ih _ _ h
      exact ⟨env t :: vs, by simp [hf, ha.tmp, h1], by simpa using h2⟩
    | cell b t =>
      obtain ⟨v, hv, h⟩ := h.out
      obtain ⟨vs, h1, h2⟩ := ih _ _ h
      have hv' : (f (.cell b t)).run P w = .ok v w := by
        rw [hf]
        dsimp only
        rw [ha.tmp]
        exact hv w hw
      refine ⟨v :: vs, ?_, by simpa using h2⟩
      rw [List.mapM_cons, Sem.run_bind, hv', Result.andThen_ok, Sem.run_bind, h1, Result.andThen_ok, Sem.run_pure]
theorem results_of {P : Program} {fn : Func} {n : Nat} {env : Env} {F : Heap} {a : Act} {w : World} {R : Value → Prop} (ha : Ag n env a) (hw : Has F w) (h : retV P env F fn.results.toList R) : ∃ v, (results fn a.tmps).run P w = .ok v w ∧ R v := by
  obtain ⟨l, hl⟩ : ∃ l, fn.results = List.toArray l := ⟨fn.results.toList, by simp⟩
  unfold results
  rw [hl] at h ⊢
  unfold retV at h
  simp only [List.mapM_toArray]
  split at h
  · next t e => subst e; exact ⟨_, by simp [ha.tmp], h⟩
  · next e => subst e; exact ⟨_, by simp, h⟩
  · next s t e => subst e; exact ⟨_, by simp [ha.tmp], h⟩
  · next s t u e => subst e; exact ⟨_, by simp [ha.tmp], h⟩
  · next s t u x e => subst e; exact ⟨_, by simp [ha.tmp], h⟩
  · obtain ⟨vs, h1, h2⟩ := retL_run ha hw _ (fun _ => rfl) _ _ _ h
    refine ⟨_, ?_, h2⟩
    rw [show l.toArray.toList = l from rfl] at h1
    rw [Sem.run_bind]
    simp only [Sem.run_map, List.nil_append]
    erw [h1]
    rw [Result.andThen_ok, Result.andThen_ok, Sem.run_pure]
    congr 1
    cases vs with
    | nil => rfl
    | cons v vs => cases vs <;> rfl
/-- The temporaries when a function is entered. -/
def enterE (args : List Value) : Env := fun t => (args[t]?).getD undef
theorem FnK.of_body {P : Program} {f : FuncId} {fn : Func} {c : Code} {args : Array Value} {F : Heap} {R : Value → Heap → Prop} (hf : P.funcs[f]? = some fn) (hb : fn.body = some c) (hnm : (fn.name == "runtime.NumGoroutine") = false) (ha : args.size ≤ fn.ntmps) (hd : okDst false fn.ntmps c = true)
    (h : codeW P c (retE P fn R) (enterE args.toList) F) : FnK P f args F R := by
  refine ⟨⟨fn, hf, hnm, by rw [hb]; rfl⟩, ?_⟩
  intro w hw
  refine calls_of_wp hf hb ?_
  have hag : Ag fn.ntmps (enterE args.toList) { tmps := args ++ Array.replicate (fn.ntmps - args.size) undef, defers := [] } := by
    refine ⟨by simp; omega, fun t => ?_⟩
    simp only [enterE, Array.getD_eq_getD_getElem?, Array.getElem?_append, Array.getElem?_toList]
    by_cases ht : t < args.size
    · rw [if_pos ht]
    · rw [if_neg ht, Array.getElem?_eq_none (by omega : args.size ≤ t)]
      simp only [Array.getElem?_replicate]
      split <;> rfl
  refine wp_mono (codeW_sound (m := false) c _ _ F _ w w hd h hag (Held.nil false _ w) hw (Rest.refl w)) ?_
  rintro e a' w' ⟨env', F', h1, h0, h2, h3, h4⟩
  cases e with
  | normal =>
    obtain ⟨v, hv, hR⟩ := results_of (P := P) (w := w') (R := fun v => R v F') h1 h2 h4
    exact ⟨h0, v, hv, v, F', rfl, h2, h3, hR⟩
  | ret =>
    obtain ⟨v, hv, hR⟩ := results_of (P := P) (w := w') (R := fun v => R v F') h1 h2 h4
    exact ⟨h0, v, hv, v, F', rfl, h2, h3, hR⟩
  | _ => exact h4.elim
end Go.Al
/- The logic of a known part of memory, 3: what each operation comes to, told as a function of its operands. It holds for every program. -/
namespace Go.Al
open Go

section
variable {P : Program} {F : Heap}
theorem wk_pure {α : Type} (a : α) (K : α → Heap → Prop) : wk P (pure a) F K ↔ K a F := Iff.rfl
theorem wk_pure' {α : Type} (a : α) (K : α → Heap → Prop) : wk P (Sem.pure a) F K ↔ K a F := Iff.rfl
theorem wk_program (K : Program → Heap → Prop) : wk P program F K ↔ K P F := Iff.rfl
theorem wk_map {α β : Type} (s : Sem α) (f : α → β) (K : β → Heap → Prop) : wk P (f <$> s) F K ↔ wk P s F (fun a F' => K (f a) F') := wk_bind s _ F K
theorem wk_askRoom (n : Nat) (K : Unit → Heap → Prop) : wk P (askRoom n) F K ↔ K () F := by unfold askRoom; split <;> exact Iff.rfl
theorem wk_underlying {t : TypeId} {d : TypeDesc} (h : P.underlying t = some d) (K : TypeDesc → Heap → Prop) : wk P (underlying t) F K ↔ K d F := by
  simp only [underlying, wk_bind, wk_program, h, wk_pure]
theorem wk_typeInfo {t : TypeId} {i : TypeInfo} (h : P.info? t = some i) (K : TypeInfo → Heap → Prop) : wk P (typeInfo t) F K ↔ K i F := by
  simp only [typeInfo, wk_bind, wk_program, h, wk_pure]
theorem wk_sizeOf {t : TypeId} {i : TypeInfo} (h : P.info? t = some i) (K : Nat → Heap → Prop) : wk P (sizeOf t) F K ↔ K i.size F := by
  simp only [sizeOf, wk_bind, wk_typeInfo h, wk_pure]
theorem wk_zeroValue {t : TypeId} {i : TypeInfo} {z : Value} (h : P.info? t = some i) (hz : i.zero = some z) (K : Value → Heap → Prop) : wk P (zeroValue t) F K ↔ K z F := by
  simp only [zeroValue, wk_bind, wk_typeInfo h, hz, wk_pure]
def aggD : TypeDesc → Bool
  | .struct _ | .array _ _ => true
  | _ => false
theorem wk_isAgg {t : TypeId} {d : TypeDesc} (h : P.underlying t = some d) (K : Bool → Heap → Prop) : wk P (isAgg t) F K ↔ K (aggD d) F := by
  simp only [isAgg, wk_bind, wk_underlying h]
  cases d <;> exact Iff.rfl
theorem wk_load {a : Addr} {m : Mode} {v : Value} (h : F.cell? a = some v) (K : Value → Heap → Prop) (hk : K v F) : wk P (load a m) F K := ⟨v, h, hk⟩
end

/-- What is known of a type. -/
structure TD where
  size : Nat
  bytes : Nat
  desc : TypeDesc
  zero : Option Value
abbrev Tab := TypeId → Option TD
def TabOk (P : Program) (T : Tab) : Prop := ∀ t d, T t = some d → P.underlying t = some d.desc ∧ ∃ i, P.info? t = some i ∧ i.size = d.size ∧ i.bytes = d.bytes ∧ i.zero = d.zero
/-- A test that stands still only where it isn't decided. -/
def kEq (j k : IntKind) : Bool := match j, k with
  | .i8, .i8 | .i16, .i16 | .i32, .i32 | .i64, .i64 | .u8, .u8 | .u16, .u16 | .u32, .u32 | .u64, .u64 => true
  | _, _ => false
theorem kEq_eq {j k : IntKind} (h : kEq j k = true) : j = k := by cases j <;> cases k <;> first | rfl | cases h

def intK (op : BinOp) (k k' : IntKind) (a b : Int) (K : Value → Prop) : Prop :=
  match op with
  | .shl => 0 ≤ b ∧ K (.int k (k.wrap (a * 2 ^ min b.toNat k.bits)))
  | .shr => 0 ≤ b ∧ K (.int k (a.fdiv (2 ^ min b.toNat k.bits)))
  | .add => bif kEq k k' then K (.int k (k.wrap (a + b))) else False
  | .sub => bif kEq k k' then K (.int k (k.wrap (a - b))) else False
  | .mul => bif kEq k k' then K (.int k (k.wrap (a * b))) else False
  | .quo => bif kEq k k' then b ≠ 0 ∧ K (.int k (k.wrap (a.tdiv b))) else False
  | .rem => bif kEq k k' then b ≠ 0 ∧ K (.int k (a.tmod b)) else False
  | .and => bif kEq k k' then K (.int k (k.wrap (BitVec.ofInt k.bits a &&& BitVec.ofInt k.bits b).toNat)) else False
  | .or => bif kEq k k' then K (.int k (k.wrap (BitVec.ofInt k.bits a ||| BitVec.ofInt k.bits b).toNat)) else False
  | .xor => bif kEq k k' then K (.int k (k.wrap (BitVec.ofInt k.bits a ^^^ BitVec.ofInt k.bits b).toNat)) else False
  | .andNot => bif kEq k k' then K (.int k (k.wrap (BitVec.ofInt k.bits a &&& ~~~(BitVec.ofInt k.bits b)).toNat)) else False
  | .eql => bif kEq k k' then K (.bool (a == b)) else False
  | .neq => bif kEq k k' then K (.bool (a != b)) else False
  | .lss => bif kEq k k' then K (.bool (decide (a < b))) else False
  | .leq => bif kEq k k' then K (.bool (decide (a ≤ b))) else False
  | .gtr => bif kEq k k' then K (.bool (decide (a > b))) else False
  | .geq => bif kEq k k' then K (.bool (decide (a ≥ b))) else False
def strK (op : BinOp) (a b : ByteArray) (K : Value → Prop) : Prop :=
  match op with
  | .add => ((a.size + b.size : Nat) : Int) ≤ 9223372036854775807 ∧ K (.string (a ++ b))
  | .eql => K (.bool (a.toList == b.toList))
  | .neq => K (.bool !(a.toList == b.toList))
  | .lss => K (.bool (Op.bytesLess a.toList b.toList))
  | .geq => K (.bool !(Op.bytesLess a.toList b.toList))
  | _ => False
/-- Two values that are held against each other. -/
def eqK (op : BinOp) (b : Bool) (K : Value → Prop) : Prop :=
  match op with
  | .eql => K (.bool b)
  | .neq => K (.bool !b)
  | _ => False
def isBoolT (T : Tab) (t : TypeId) : Bool := match T t with | some d => (match d.desc with | .bool => true | _ => false) | none => false
def isSliceT (T : Tab) (t : TypeId) : Bool := match T t with | some d => (match d.desc with | .slice _ => true | _ => false) | none => false
def isPtrT (T : Tab) (t : TypeId) : Bool := match T t with | some d => (match d.desc with | .pointer _ => true | _ => false) | none => false
def binK (T : Tab) (op : BinOp) (t : TypeId) (x y : Value) (K : Value → Prop) : Prop :=
  match x, y with
  | .int k a, .int k' b => intK op k k' a b K
  | .string a, .string b => strK op a b K
  | .bool a, .bool b => bif isBoolT T t then eqK op (a == b) K else False
  | .slice a _ _, .slice none _ _ => bif isSliceT T t then eqK op a.isNone K else False
  | .pointer a, .pointer none => bif isPtrT T t then eqK op a.isNone K else False
  | _, _ => False
def unK (op : UnOp) (x : Value) (K : Value → Prop) : Prop :=
  match op, x with
  | .not, .bool b => K (.bool !b)
  | .neg, .int k n => K (.int k (k.wrap (0 - n)))
  | .xor, .int k n => K (.int k (k.wrap (BitVec.ofInt k.bits (if k.signed then -1 else k.max) ^^^ BitVec.ofInt k.bits n).toNat))
  | _, _ => False
def convK (T : Tab) (src dst : TypeId) (x : Value) (K : Value → Prop) : Prop :=
  match T src, T dst with
  | some _, some d => (match d.desc, x with
    | .int k, .int _ n => K (.int k (k.wrap n))
    | .string, .string s => K (.string s)
    | _, _ => False)
  | _, _ => False
def getK (cs : Array Value) (off : Nat) (K : Value → Prop) : Prop := match cs[off]? with | some v => K v | none => False
def partK (T : Tab) (t : TypeId) (cs : Array Value) (off : Nat) (K : Value → Prop) : Prop :=
  match T t with
  | some d => bif aggD d.desc then K (.agg (cs.extract off (off + d.size))) else getK cs off K
  | none => False
def sizeK (T : Tab) (t : TypeId) : Nat := match T t with | some d => d.size | none => 0
def hasT (T : Tab) (t : TypeId) : Bool := match T t with | some _ => true | none => false
def boundK (x : Option Value) (y d : Nat) (K : Nat → Prop) : Prop :=
  match x with
  | none => K d
  | some (.int _ i) => (0 ≤ i ∧ i ≤ y) ∧ K i.toNat
  | some _ => False
def sliceK (T : Tab) (t : TypeId) (x : Value) (lo hi mx : Option Value) (K : Value → Prop) : Prop :=
  match T t, x with
  | some ⟨_, _, .string, _⟩, .string s => (match mx with
    | none => boundK hi s.size s.size fun h => boundK lo h 0 fun l => K (.string (s.extract l h))
    | some _ => False)
  | some ⟨_, _, .slice e, _⟩, .slice a len cap => bif hasT T e then (match mx, hi with
    | some _, none => False
    | _, _ => boundK mx cap cap fun m => boundK hi m len fun h => boundK lo h 0 fun l => K (.slice (if m = l then a else a.map (·.add (l * sizeK T e))) (h - l) (m - l))) else False
  | _, _ => False
/-- What an operation that looks at no memory comes to. -/
def valK (T : Tab) (op : Op) (ev : Operand → Value) (K : Value → Prop) : Prop :=
  match op with
  | .move x => K (ev x)
  | .assign x => K (ev x)
  | .pick c a b => (match ev c with | .bool t => K (if t then ev a else ev b) | _ => False)
  | .binOp op t x y _ => binK T op t (ev x) (ev y) K
  | .unOp op _ x => unK op (ev x) K
  | .convert src dst x => convK T src dst (ev x) K
  | .extract t i => (match ev t with | .tuple vs => (match vs[i]? with | some v => K v | none => False) | _ => False)
  | .indexAddr t x i => (match T t, ev x, ev i with
    | some ⟨_, _, .slice e, _⟩, .slice (some a) n _, .int _ j => bif hasT T e then (0 ≤ j ∧ j < n) ∧ K (.pointer (some (a.add (j.toNat * sizeK T e)))) else False
    | some ⟨_, _, .array n e, _⟩, .pointer (some a), .int _ j => bif hasT T e then (0 ≤ j ∧ j < n) ∧ K (.pointer (some (a.add (j.toNat * sizeK T e)))) else False
    | _, _, _ => False)
  | .index t x i => (match T t, ev x, ev i with
    | some ⟨_, _, .string, _⟩, .string s, .int _ j => (0 ≤ j ∧ j < s.size) ∧ ∀ b : UInt8, s[j.toNat]? = some b → K (.int .u8 b.toNat)
    | some ⟨_, _, .array n e, _⟩, .agg cs, .int _ j => bif hasT T e then (0 ≤ j ∧ j < n) ∧ partK T e cs (j.toNat * sizeK T e) K else False
    | _, _, _ => False)
  | .fieldAddr s x f => (match T s, ev x with
    | some ⟨_, _, .struct fs, _⟩, .pointer (some a) => (match fs[f]? with
      | some fd => bif hasT T fd.type then bif Nat.beq (sizeK T fd.type) 0 then False else K (.pointer (some (a.add fd.offset))) else False
      | none => False)
    | _, _ => False)
  | .field s x f => (match T s, ev x with
    | some ⟨_, _, .struct fs, _⟩, .agg cs => (match fs[f]? with | some fd => partK T fd.type cs fd.offset K | none => False)
    | _, _ => False)
  | .nilCheck x => (match ev x with | .pointer (some a) => K (.pointer (some a)) | _ => False)
  | .makeInterface t x => (match T t with | some ⟨_, _, .interface _, _⟩ => False | some _ => K (.iface t (ev x)) | none => False)
  | .slice t x lo hi mx => sliceK T t (ev x) (lo.map ev) (hi.map ev) (mx.map ev) K
  | .makeFunc fn first captured => K (.func fn (first.toList.map ev).toArray (captured.toList.map ev).toArray)
  | .call ⟨.builtin .len, args, ts⟩ => (match args.toList, ts.toList with
    | [x], [t] => (match T t, ev x with
      | some ⟨_, _, .string, _⟩, .string s => K (.int .i64 s.size)
      | some ⟨_, _, .slice _, _⟩, .slice _ n _ => K (.int .i64 n)
      | some ⟨_, _, .array n _, _⟩, _ => K (.int .i64 n)
      | _, _ => False)
    | _, _ => False)
  | .call ⟨.builtin .cap, args, ts⟩ => (match args.toList, ts.toList with
    | [x], [t] => (match T t, ev x with
      | some ⟨_, _, .slice _, _⟩, .slice _ _ n => K (.int .i64 n)
      | _, _ => False)
    | _, _ => False)
  | .call ⟨.builtin .min, args, _⟩ => (match args.toList with
    | [x, y] => (match ev x, ev y with | .int k a, .int _ b => K (.int k (if b < a then b else a)) | _, _ => False)
    | _ => False)
  | .call ⟨.builtin .max, args, _⟩ => (match args.toList with
    | [x, y] => (match ev x, ev y with | .int k a, .int _ b => K (.int k (if a < b then b else a)) | _, _ => False)
    | _ => False)
  | _ => False
end Go.Al
/- The logic of a known part of memory, 4: the operations that look at no memory do what is told of them. It holds for every program. -/
namespace Go.Al
open Go

theorem opW_v {P : Program} {o : Oper} {ev : Operand → Value} {s : Sem Value} (hs : execOp ev o = (do pure (.value (← s)))) {F : Heap} {K : Value → Heap → Prop} (h : wk P s F K) : opW P o ev F K :=
  opW_wk (by rw [hs, wk_bind]; exact h)
/-- The operation hands back v, whatever is known of memory, and changes nothing. -/
abbrev Still (P : Program) (o : Oper) (ev : Operand → Value) (v : Value) : Prop := ∀ F, opW P o ev F (fun u F' => u = v ∧ F' = F)
theorem still_of {P : Program} {o : Oper} {ev : Operand → Value} {s : Sem Value} {v : Value} (hs : execOp ev o = (do pure (.value (← s)))) (h : ∀ F, wk P s F (fun u F' => u = v ∧ F' = F)) : Still P o ev v := fun F => opW_v hs (h F)
theorem still_pure {P : Program} {o : Oper} {ev : Operand → Value} {v : Value} (hs : execOp ev o = pure (.value v)) : Still P o ev v := fun F => opW_wk (by rw [hs]; exact ⟨rfl, rfl⟩)

theorem cond_of {b : Bool} {p : Prop} (h : bif b then p else False) : b = true ∧ p := by cases b <;> first | exact h.elim | exact ⟨rfl, h⟩
theorem intK_sound {P : Program} {op : BinOp} {t : TypeId} {k k' : IntKind} {a b : Int} {K : Value → Prop} (h : intK op k k' a b K) :
    ∃ v, K v ∧ ∀ F, wk P (binOp op t (.int k a) (.int k' b)) F (fun u F' => u = v ∧ F' = F) := by
  cases op <;> simp only [intK] at h
  case shl => obtain ⟨h0, h⟩ := h; exact ⟨_, h, fun F => by simp only [binOp, Op.shift, if_neg (Int.not_lt.2 h0)]; exact ⟨rfl, rfl⟩⟩
  case shr => obtain ⟨h0, h⟩ := h; exact ⟨_, h, fun F => by simp only [binOp, Op.shift, if_neg (Int.not_lt.2 h0)]; exact ⟨rfl, rfl⟩⟩
  case quo =>
    obtain ⟨hk, hb, h'⟩ := cond_of h
    obtain rfl := kEq_eq hk
    exact ⟨_, h', fun F => by simp only [binOp, ne_eq, not_true, if_false, Op.intDiv, if_neg hb]; exact ⟨rfl, rfl⟩⟩
  case rem =>
    obtain ⟨hk, hb, h'⟩ := cond_of h
    obtain rfl := kEq_eq hk
    exact ⟨_, h', fun F => by simp only [binOp, ne_eq, not_true, if_false, Op.intDiv, if_neg hb]; exact ⟨rfl, rfl⟩⟩
  all_goals
    obtain ⟨hk, h'⟩ := cond_of h
    clear h
    obtain rfl := kEq_eq hk
    refine ⟨_, h', fun F => ?_⟩
    simp only [binOp, ne_eq, not_true, if_false]
    exact ⟨rfl, rfl⟩
theorem strK_sound {P : Program} {op : BinOp} {t : TypeId} {a b : ByteArray} {K : Value → Prop} (h : strK op a b K) :
    ∃ v, K v ∧ ∀ F, wk P (binOp op t (.string a) (.string b)) F (fun u F' => u = v ∧ F' = F) := by
  cases op <;> simp only [strK] at h
  case add =>
    obtain ⟨h0, h⟩ := h
    refine ⟨_, h, fun F => ?_⟩
    have hm : (IntKind.i64.max : Int) = 9223372036854775807 := by decide
    simp only [binOp, Op.stringOp]
    rw [if_neg (by rw [hm]; omega)]
    exact ⟨rfl, rfl⟩
  case eql => exact ⟨_, h, fun F => ⟨rfl, rfl⟩⟩
  case neq => exact ⟨_, h, fun F => ⟨rfl, rfl⟩⟩
  case lss => exact ⟨_, h, fun F => ⟨rfl, rfl⟩⟩
  case geq => exact ⟨_, h, fun F => ⟨rfl, rfl⟩⟩
theorem eqK_sound {P : Program} {op : BinOp} {t : TypeId} {x y : Value} {b : Bool} {K : Value → Prop} (h : eqK op b K)
    (h1 : binOp .eql t x y = (do pure (.bool (← Op.equal t x y)))) (h2 : binOp .neq t x y = (do pure (.bool (!(← Op.equal t x y))))) (he : ∀ F, wk P (Op.equal t x y) F (fun u F' => u = b ∧ F' = F)) :
    ∃ v, K v ∧ ∀ F, wk P (binOp op t x y) F (fun u F' => u = v ∧ F' = F) := by
  cases op <;> simp only [eqK] at h
  case eql => exact ⟨_, h, fun F => by rw [h1, wk_bind]; exact wk_mono (he F) fun u F' ⟨e1, e2⟩ => by subst e1; exact ⟨rfl, e2⟩⟩
  case neq => exact ⟨_, h, fun F => by rw [h2, wk_bind]; exact wk_mono (he F) fun u F' ⟨e1, e2⟩ => by subst e1; exact ⟨rfl, e2⟩⟩
theorem isBoolT_of {P : Program} {T : Tab} (hT : TabOk P T) {t : TypeId} (h : isBoolT T t = true) : P.underlying t = some .bool := by
  unfold isBoolT at h
  cases e : T t with
  | none => rw [e] at h; cases h
  | some d =>
    rw [e] at h
    have := (hT _ _ e).1
    obtain ⟨s1, s2, dd, zz⟩ := d
    cases dd <;> first | exact this | cases h
theorem isSliceT_of {P : Program} {T : Tab} (hT : TabOk P T) {t : TypeId} (h : isSliceT T t = true) : ∃ e, P.underlying t = some (.slice e) := by
  unfold isSliceT at h
  cases e : T t with
  | none => rw [e] at h; cases h
  | some d =>
    rw [e] at h
    have := (hT _ _ e).1
    obtain ⟨s1, s2, dd, zz⟩ := d
    cases dd <;> first | exact ⟨_, this⟩ | cases h
theorem isPtrT_of {P : Program} {T : Tab} (hT : TabOk P T) {t : TypeId} (h : isPtrT T t = true) : ∃ e, P.underlying t = some (.pointer e) := by
  unfold isPtrT at h
  cases e : T t with
  | none => rw [e] at h; cases h
  | some d =>
    rw [e] at h
    have := (hT _ _ e).1
    obtain ⟨s1, s2, dd, zz⟩ := d
    cases dd <;> first | exact ⟨_, this⟩ | cases h
theorem guardK {P : Program} {op : BinOp} {t : TypeId} {x y : Value} (h1 : ¬ (x = .nilIface ∧ y = .nilIface)) (h2 : ∀ c d, ¬ (x = .agg c ∧ y = .agg d)) (a b : Operand) (F : Heap) : wk P (eqGuard op t a b x y) F (fun _ F' => F' = F) := by
  cases op
  case eql | neq =>
    unfold eqGuard
    rw [if_neg (by decide)]
    cases x <;> first
      | exact (rfl : F = F)
      | (cases y <;> first | exact (rfl : F = F) | exact absurd ⟨rfl, rfl⟩ h1 | exact absurd ⟨rfl, rfl⟩ (h2 _ _))
  all_goals exact (rfl : F = F)
theorem wk_eqB {P : Program} {t : TypeId} (hu : P.underlying t = some .bool) (d : Nat) (a b : Bool) (F : Heap) : wk P (Op.equalIn (d + 1) t (.bool a) (.bool b)) F (fun u F' => u = (a == b) ∧ F' = F) := by
  simp only [Op.equalIn, wk_bind, wk_underlying hu]
  exact ⟨rfl, rfl⟩
theorem wk_eqS {P : Program} {t e : TypeId} (hu : P.underlying t = some (.slice e)) (d : Nat) (a : Option Addr) (n c m k : Nat) (F : Heap) : wk P (Op.equalIn (d + 1) t (.slice a n c) (.slice none m k)) F (fun u F' => u = a.isNone ∧ F' = F) := by
  simp only [Op.equalIn, wk_bind, wk_underlying hu]
  cases a <;> exact ⟨rfl, rfl⟩
theorem wk_eqP {P : Program} {t e : TypeId} (hu : P.underlying t = some (.pointer e)) (d : Nat) (a : Option Addr) (F : Heap) : wk P (Op.equalIn (d + 1) t (.pointer a) (.pointer none)) F (fun u F' => u = a.isNone ∧ F' = F) := by
  simp only [Op.equalIn, wk_bind, wk_underlying hu]
  cases a <;> exact ⟨rfl, rfl⟩
theorem binK_sound {P : Program} {T : Tab} (hT : TabOk P T) {op : BinOp} {t : TypeId} {x y : Value} {K : Value → Prop} (h : binK T op t x y K) :
    (∃ v, K v ∧ (∀ F, wk P (binOp op t x y) F (fun u F' => u = v ∧ F' = F))) ∧ (∀ a b F, wk P (eqGuard op t a b x y) F (fun _ F' => F' = F)) := by
  unfold binK at h
  split at h
  · exact ⟨intK_sound h, guardK (fun e => by cases e.1) (fun _ _ e => by cases e.1)⟩
  · exact ⟨strK_sound h, guardK (fun e => by cases e.1) (fun _ _ e => by cases e.1)⟩
  · next a b =>
    obtain ⟨hb, h⟩ := cond_of h
    have hu := isBoolT_of hT hb
    exact ⟨eqK_sound h rfl rfl fun F => wk_eqB hu 9999 a b F, guardK (fun e => by cases e.1) (fun _ _ e => by cases e.1)⟩
  · next a n c m d =>
    obtain ⟨hb, h⟩ := cond_of h
    obtain ⟨e, hu⟩ := isSliceT_of hT hb
    exact ⟨eqK_sound h (by cases a <;> rfl) (by cases a <;> rfl) fun F => wk_eqS hu 9999 a n c m d F, guardK (fun e => by cases e.1) (fun _ _ e => by cases e.1)⟩
  · next a =>
    obtain ⟨hb, h⟩ := cond_of h
    obtain ⟨e, hu⟩ := isPtrT_of hT hb
    exact ⟨eqK_sound h (by cases a <;> rfl) (by cases a <;> rfl) fun F => wk_eqP hu 9999 a F, guardK (fun e => by cases e.1) (fun _ _ e => by cases e.1)⟩
  · exact h.elim

theorem partK_sound {P : Program} {T : Tab} (hT : TabOk P T) {t : TypeId} {cs : Array Value} {off : Nat} {K : Value → Prop} (h : partK T t cs off K) : ∃ v, K v ∧ ∀ F, wk P (part t cs off) F (fun u F' => u = v ∧ F' = F) := by
  unfold partK at h
  split at h
  case h_2 => exact h.elim
  case h_1 d ht =>
    obtain ⟨hu, i, hi, hs, _, _⟩ := hT _ _ ht
    cases ha : aggD d.desc with
    | true =>
      rw [ha, cond_true] at h
      exact ⟨_, h, fun F => by simp only [part, wk_bind, wk_isAgg hu, ha, if_true, wk_sizeOf hi, hs, wk_pure, and_self]⟩
    | false =>
      rw [ha, cond_false] at h
      unfold getK at h
      split at h
      case h_2 => exact h.elim
      case h_1 v hv => exact ⟨_, h, fun F => by simp only [part, wk_bind, wk_isAgg hu, ha, Bool.false_eq_true, if_false, hv, wk_pure, and_self]⟩
theorem hasT_some {T : Tab} {t : TypeId} (h : hasT T t = true) : ∃ d, T t = some d ∧ sizeK T t = d.size := by
  unfold hasT at h
  unfold sizeK
  cases e : T t with
  | none => rw [e] at h; cases h
  | some d => exact ⟨d, rfl, rfl⟩
theorem wk_sliceBound {P : Program} {F : Heap} {k : IntKind} {i : Int} {y : Nat} {code : BoundsCode} (h : 0 ≤ i ∧ i ≤ y) (K : Nat → Heap → Prop) : wk P (Instr.sliceBound (.int k i) y code) F K ↔ K i.toNat F := by
  unfold Instr.sliceBound
  simp only [asIntOf, wk_bind, wk_pure]
  rw [if_pos h, wk_pure]
theorem boundK_some {v : Value} {y d : Nat} {K : Nat → Prop} (h : boundK (some v) y d K) : ∃ k i, v = .int k i ∧ (0 ≤ i ∧ i ≤ y) ∧ K i.toNat := by
  cases v <;> first | exact ⟨_, _, rfl, h⟩ | exact (h : False).elim
/-- The bounds of a cut. -/
theorem bounds_sound {P : Program} {isSlice : Bool} {len cap : Nat} {lo hi mx : Option Value} {L : Nat → Nat → Nat → Prop} (hmh : ∀ v, mx = some v → hi ≠ none)
    (h : boundK mx cap cap fun m => boundK hi m len fun h => boundK lo h 0 fun l => L l h m) : ∃ l h m, L l h m ∧ ∀ F (K : Nat × Nat × Nat → Heap → Prop), wk P (Instr.sliceBounds isSlice len cap lo hi mx) F K ↔ K (l, h, m) F := by
  have fin : ∀ l hh m, L l hh m → (∀ F (K : Nat × Nat × Nat → Heap → Prop), wk P (Instr.sliceBounds isSlice len cap lo hi mx) F K ↔ K (l, hh, m) F) → ∃ l h m, L l h m ∧ ∀ F (K : Nat × Nat × Nat → Heap → Prop), wk P (Instr.sliceBounds isSlice len cap lo hi mx) F K ↔ K (l, h, m) F := fun l hh m h1 h2 => ⟨l, hh, m, h1, h2⟩
  cases mx with
  | none =>
    replace h : boundK hi cap len fun h => boundK lo h 0 fun l => L l h cap := h
    cases hi with
    | none =>
      replace h : boundK lo len 0 fun l => L l len cap := h
      cases lo with
      | none => exact fin 0 len cap h (fun F K => Iff.rfl)
      | some v =>
        obtain ⟨k, i, rfl, hb, h⟩ := boundK_some h
        exact fin i.toNat len cap h (fun F K => by simp only [Instr.sliceBounds, wk_bind, wk_pure, wk_sliceBound hb])
    | some v =>
      obtain ⟨k, i, rfl, hb, h⟩ := boundK_some h
      cases lo with
      | none => exact fin 0 i.toNat cap h (fun F K => by simp only [Instr.sliceBounds, wk_bind, wk_pure, wk_sliceBound hb])
      | some v =>
        obtain ⟨k', i', rfl, hb', h⟩ := boundK_some h
        exact fin i'.toNat i.toNat cap h (fun F K => by simp only [Instr.sliceBounds, wk_bind, wk_pure, wk_sliceBound hb, wk_sliceBound hb'])
  | some v =>
    obtain ⟨k0, i0, rfl, hb0, h⟩ := boundK_some h
    cases hi with
    | none => exact (hmh _ rfl rfl).elim
    | some v =>
      obtain ⟨k, i, rfl, hb, h⟩ := boundK_some h
      cases lo with
      | none => exact fin 0 i.toNat i0.toNat h (fun F K => by simp only [Instr.sliceBounds, wk_bind, wk_pure, wk_sliceBound hb0, wk_sliceBound hb])
      | some v =>
        obtain ⟨k', i', rfl, hb', h⟩ := boundK_some h
        exact fin i'.toNat i.toNat i0.toNat h (fun F K => by simp only [Instr.sliceBounds, wk_bind, wk_pure, wk_sliceBound hb0, wk_sliceBound hb, wk_sliceBound hb'])
theorem sliceK_sound {P : Program} {T : Tab} (hT : TabOk P T) {t : TypeId} {x : Value} {lo hi mx : Option Value} {K : Value → Prop} (h : sliceK T t x lo hi mx K) : ∃ v, K v ∧ ∀ F, wk P (Instr.sliceAt t x lo hi mx) F (fun u F' => u = v ∧ F' = F) := by
  unfold sliceK at h
  split at h
  · next s_ b_ z s ht =>
    obtain ⟨hu, _⟩ := hT _ _ ht
    split at h
    case h_2 => exact h.elim
    case h_1 =>
      obtain ⟨l, hh, m, h1, h2⟩ := bounds_sound (P := P) (isSlice := false) (mx := none) (cap := s.size) (L := fun l h _ => K (.string (s.extract l h))) (fun v e => by cases e) h
      refine ⟨_, h1, fun F => ?_⟩
      simp only [Instr.sliceAt, wk_bind, wk_underlying hu, Instr.slice, Option.isSome_none, Bool.false_eq_true, if_false]
      exact (h2 F _).2 ⟨rfl, rfl⟩
  · next s_ b_ e z a len cap ht =>
    obtain ⟨hu, _⟩ := hT _ _ ht
    obtain ⟨he, h⟩ := cond_of h
    obtain ⟨d, hd, hs⟩ := hasT_some he
    obtain ⟨_, ie, hie, hsz, _⟩ := hT _ _ hd
    have go : (boundK mx cap cap fun m => boundK hi m len fun h => boundK lo h 0 fun l => K (.slice (if m = l then a else a.map (·.add (l * sizeK T e))) (h - l) (m - l))) → (∀ v, mx = some v → hi ≠ none) →
        ∃ v, K v ∧ ∀ F, wk P (Instr.sliceAt t (.slice a len cap) lo hi mx) F (fun u F' => u = v ∧ F' = F) := by
      intro h hm
      obtain ⟨l, hh, m, h1, h2⟩ := bounds_sound (P := P) (isSlice := true) (L := fun l h m => K (.slice (if m = l then a else a.map (·.add (l * sizeK T e))) (h - l) (m - l))) hm h
      refine ⟨_, h1, fun F => ?_⟩
      simp only [Instr.sliceAt, wk_bind, wk_underlying hu, Instr.slice]
      refine (h2 F _).2 ?_
      simp only [wk_sizeOf hie, wk_pure, hsz, hs, and_self]
    split at h
    · exact h.elim
    · next hne => exact go h (fun v e1 e2 => hne v e1 e2)
  · exact h.elim
theorem valK_sound {P : Program} {T : Tab} (hT : TabOk P T) {o : Oper} {op : Op} (ho : o.op = op) {ev : Operand → Value} {K : Value → Prop} (h : valK T op ev K) : ∃ v, K v ∧ Still P o ev v := by
  cases op
  case move x =>
    simp only [valK] at h
    exact ⟨_, h, still_pure (by simp only [execOp, ho])⟩
  case assign x =>
    simp only [valK] at h
    exact ⟨_, h, still_pure (by simp only [execOp, ho])⟩
  case pick c a b =>
    simp only [valK] at h
    split at h
    · next t e => exact ⟨_, h, fun F => opW_wk (by simp only [execOp, ho, wk_bind, e, asBool, wk_pure]; exact ⟨rfl, rfl⟩)⟩
    · exact h.elim
  case binOp op t x y yt =>
    simp only [valK] at h
    obtain ⟨⟨v, hv, h1⟩, h2⟩ := binK_sound hT h
    refine ⟨v, hv, still_of (s := (do eqGuard op t x y (ev x) (ev y); binOp op t (ev x) (ev y))) (by simp only [execOp, ho]) fun F => ?_⟩
    rw [wk_bind]
    exact wk_mono (h2 x y F) fun _ F' e => by subst e; exact h1 F'
  case unOp op t x =>
    simp only [valK] at h
    refine ?_
    unfold unK at h
    split at h
    · next b e => exact ⟨_, h, still_of (s := Op.unary .not (ev x)) (by simp only [execOp, ho]) fun F => by rw [e]; exact ⟨rfl, rfl⟩⟩
    · next k n e => exact ⟨_, h, still_of (s := Op.unary .neg (ev x)) (by simp only [execOp, ho]) fun F => by rw [e]; exact ⟨rfl, rfl⟩⟩
    · next k n e => exact ⟨_, h, still_of (s := Op.unary .xor (ev x)) (by simp only [execOp, ho]) fun F => by rw [e]; exact ⟨rfl, rfl⟩⟩
    · exact h.elim
  case convert src dst x =>
    simp only [valK] at h
    unfold convK at h
    split at h
    case h_2 => exact h.elim
    case h_1 ds d h1 h2 =>
      obtain ⟨hu1, _⟩ := hT _ _ h1
      obtain ⟨hu2, _⟩ := hT _ _ h2
      split at h
      · next k k' n e1 e2 =>
        refine ⟨_, h, still_of (s := convert src dst (ev x)) (by simp only [execOp, ho]) fun F => ?_⟩
        simp only [convert, wk_bind, wk_underlying hu1, wk_underlying hu2, e1, e2]
        cases ds.desc <;> exact ⟨rfl, rfl⟩
      · next s e1 e2 =>
        refine ⟨_, h, still_of (s := convert src dst (ev x)) (by simp only [execOp, ho]) fun F => ?_⟩
        simp only [convert, wk_bind, wk_underlying hu1, wk_underlying hu2, e1, e2]
        cases ds.desc <;> exact ⟨rfl, rfl⟩
      · exact h.elim
  case extract t i =>
    simp only [valK] at h
    split at h
    case h_2 => exact h.elim
    case h_1 vs e =>
      split at h
      case h_2 => exact h.elim
      case h_1 v hv => exact ⟨_, h, still_of (s := Instr.extract (ev t) i) (by simp only [execOp, ho]) fun F => by rw [e]; simp only [Instr.extract, hv]; exact ⟨rfl, rfl⟩⟩
  case indexAddr t x i =>
    simp only [valK] at h
    split at h
    · next s by_ e z a n c k j ht hx hi =>
      obtain ⟨he, ⟨h0, h1⟩, h⟩ := cond_of h
      obtain ⟨d, hd, hs⟩ := hasT_some he
      obtain ⟨hu, _⟩ := hT _ _ ht
      obtain ⟨_, ie, hie, hsz, _⟩ := hT _ _ hd
      refine ⟨_, h, still_of (s := Instr.indexAt t (ev x) (ev i)) (by simp only [execOp, ho]) fun F => ?_⟩
      simp only [Instr.indexAt, hx, hi, asIntOf, wk_bind, wk_pure, wk_underlying hu]
      rw [if_pos ⟨h0, h1⟩]
      simp only [wk_bind, wk_sizeOf hie, wk_pure, hsz, hs, and_self]
    · next s by_ n e z a k j ht hx hi =>
      obtain ⟨he, ⟨h0, h1⟩, h⟩ := cond_of h
      obtain ⟨d, hd, hs⟩ := hasT_some he
      obtain ⟨hu, _⟩ := hT _ _ ht
      obtain ⟨_, ie, hie, hsz, _⟩ := hT _ _ hd
      refine ⟨_, h, still_of (s := Instr.indexAt t (ev x) (ev i)) (by simp only [execOp, ho]) fun F => ?_⟩
      simp only [Instr.indexAt, hx, hi, asIntOf, wk_bind, wk_pure, wk_underlying hu, Instr.sureAddr]
      rw [if_pos ⟨h0, h1⟩]
      simp only [wk_bind, wk_sizeOf hie, wk_pure, hsz, hs, and_self]
    · exact h.elim
  case index t x i =>
    simp only [valK] at h
    split at h
    · next s_ by_ z s k j ht hx hi =>
      obtain ⟨⟨h0, h1⟩, h⟩ := h
      obtain ⟨hu, _⟩ := hT _ _ ht
      have hlt : j.toNat < s.size := by omega
      have hb : s[j.toNat]? = some s[j.toNat] := by simp [hlt]
      refine ⟨_, h _ hb, still_of (s := Instr.index t (ev x) (ev i)) (by simp only [execOp, ho]) fun F => ?_⟩
      simp only [Instr.index, hx, hi, asIntOf, wk_bind, wk_pure, wk_underlying hu, if_pos h0, hb]
      exact ⟨trivial, trivial⟩
    · next s_ by_ n e z cs k j ht hx hi =>
      obtain ⟨he, ⟨h0, h1⟩, h⟩ := cond_of h
      obtain ⟨d, hd, hs⟩ := hasT_some he
      obtain ⟨hu, _⟩ := hT _ _ ht
      obtain ⟨_, ie, hie, hsz, _⟩ := hT _ _ hd
      obtain ⟨v, hv, hp⟩ := partK_sound hT h
      refine ⟨v, hv, still_of (s := Instr.index t (ev x) (ev i)) (by simp only [execOp, ho]) fun F => ?_⟩
      simp only [Instr.index, hx, hi, asIntOf, wk_bind, wk_pure, wk_underlying hu]
      rw [if_pos ⟨h0, h1⟩]
      simp only [wk_bind, wk_sizeOf hie, hsz]
      rw [hs] at hp
      exact hp F
    · exact h.elim
  case fieldAddr s x f =>
    simp only [valK] at h
    split at h
    · next s_ by_ fs z a ht hx =>
      split at h
      · next fd hf =>
        obtain ⟨he, h⟩ := cond_of h
        obtain ⟨d, hd, hs⟩ := hasT_some he
        obtain ⟨hu, _⟩ := hT _ _ ht
        obtain ⟨_, ie, hie, hsz, _⟩ := hT _ _ hd
        cases hz : Nat.beq (sizeK T fd.type) 0 with
        | true => rw [hz] at h; exact h.elim
        | false =>
          rw [hz, cond_false] at h
          refine ⟨_, h, still_of (s := Instr.fieldAt s (ev x) f) (by simp only [execOp, ho]) fun F => ?_⟩
          have hne : ie.size ≠ 0 := by
            intro e0
            rw [hs, ← hsz, e0] at hz
            cases hz
          simp only [Instr.fieldAt, hx, wk_bind, wk_underlying hu, hf, Instr.sureAddr, wk_pure, fieldPlace, wk_sizeOf hie]
          rw [if_neg hne]
          exact ⟨rfl, rfl⟩
      · exact h.elim
    · exact h.elim
  case field s x f =>
    simp only [valK] at h
    split at h
    · next s_ by_ fs z cs ht hx =>
      split at h
      · next fd hf =>
        obtain ⟨hu, _⟩ := hT _ _ ht
        obtain ⟨v, hv, hp⟩ := partK_sound hT h
        refine ⟨v, hv, still_of (s := Instr.field s (ev x) f) (by simp only [execOp, ho]) fun F => ?_⟩
        simp only [Instr.field, hx, wk_bind, wk_underlying hu, hf, asAgg, wk_pure]
        exact hp F
      · exact h.elim
    · exact h.elim
  case nilCheck x =>
    simp only [valK] at h
    split at h
    · next a e => exact ⟨_, h, fun F => opW_wk (by simp only [execOp, ho, e]; exact ⟨rfl, rfl⟩)⟩
    · exact h.elim
  case makeInterface t x =>
    simp only [valK] at h
    split at h
    · exact h.elim
    · next d hn ht =>
      obtain ⟨hu, _⟩ := hT _ _ ht
      refine ⟨_, h, still_of (s := Instr.makeInterface t (ev x)) (by simp only [execOp, ho]) fun F => ?_⟩
      simp only [Instr.makeInterface, wk_bind, wk_underlying hu]
      obtain ⟨s1, s2, dd, zz⟩ := d
      cases dd <;> first | exact ⟨rfl, rfl⟩ | exact (hn _ _ _ _ rfl).elim
    · exact h.elim
  case slice t x lo hi mx =>
    simp only [valK] at h
    obtain ⟨v, hv, hs⟩ := sliceK_sound hT h
    exact ⟨v, hv, still_of (s := Instr.sliceAt t (ev x) (lo.map ev) (hi.map ev) (mx.map ev)) (by simp only [execOp, ho]) hs⟩
  case makeFunc fn first captured =>
    simp only [valK] at h
    refine ⟨_, h, still_of (s := Instr.makeFunc fn (first.map ev) (captured.map ev)) (by simp only [execOp, ho]) fun F => ?_⟩
    have hm : ∀ l : Array Operand, Array.map ev l = (List.map ev l.toList).toArray := fun l => Array.toList_inj.1 (by simp)
    rw [Instr.makeFunc, hm, hm]
    exact ⟨rfl, rfl⟩
  case call c =>
    obtain ⟨cal, args, ts⟩ := c
    cases cal
    case value f => exact (h : False).elim
    case invoke r m => exact (h : False).elim
    case builtin bi =>
    cases bi
    case len =>
      simp only [valK] at h
      split at h
      · next x t ha hts =>
        obtain rfl : args = #[x] := by rw [← Array.toList_inj]; exact ha
        obtain rfl : ts = #[t] := by rw [← Array.toList_inj]; exact hts
        have hex : execOp ev o = (do pure (.value (← Builtin.len_ #[t] o.type #[ev x]))) := by simp [execOp, ho, resolve, invoke, builtin]
        split at h
        · next s_ by_ z s ht hx =>
          obtain ⟨hu, _⟩ := hT _ _ ht
          exact ⟨_, h, still_of hex fun F => by simp [Builtin.len_, wk_bind, wk_underlying hu, hx, wk_pure, goInt]⟩
        · next s_ by_ e z a n c ht hx =>
          obtain ⟨hu, _⟩ := hT _ _ ht
          exact ⟨_, h, still_of hex fun F => by simp [Builtin.len_, wk_bind, wk_underlying hu, hx, wk_pure, goInt]⟩
        · next s_ by_ n e z ht =>
          obtain ⟨hu, _⟩ := hT _ _ ht
          exact ⟨_, h, still_of hex fun F => by simp [Builtin.len_, wk_bind, wk_underlying hu, wk_pure, goInt]⟩
        · exact h.elim
      · exact h.elim
    case cap =>
      simp only [valK] at h
      split at h
      · next x t ha hts =>
        obtain rfl : args = #[x] := by rw [← Array.toList_inj]; exact ha
        obtain rfl : ts = #[t] := by rw [← Array.toList_inj]; exact hts
        have hex : execOp ev o = (do pure (.value (← Builtin.cap_ #[t] o.type #[ev x]))) := by simp [execOp, ho, resolve, invoke, builtin]
        split at h
        · next s_ by_ e z a n c ht hx =>
          obtain ⟨hu, _⟩ := hT _ _ ht
          exact ⟨_, h, still_of hex fun F => by simp [Builtin.cap_, wk_bind, wk_underlying hu, hx, wk_pure, goInt]⟩
        · exact h.elim
      · exact h.elim
    case min =>
      simp only [valK] at h
      split at h
      · next x y ha =>
        obtain rfl : args = #[x, y] := by rw [← Array.toList_inj]; exact ha
        have hex : execOp ev o = (do pure (.value (← Builtin.min_ ts o.type #[ev x, ev y]))) := by simp [execOp, ho, resolve, invoke, builtin]
        split at h
        · next k a k' b hx hy => exact ⟨_, h, still_of hex fun F => by simp [Builtin.min_, Builtin.min2, hx, hy, wk_pure]⟩
        · exact h.elim
      · exact h.elim
    case max =>
      simp only [valK] at h
      split at h
      · next x y ha =>
        obtain rfl : args = #[x, y] := by rw [← Array.toList_inj]; exact ha
        have hex : execOp ev o = (do pure (.value (← Builtin.max_ ts o.type #[ev x, ev y]))) := by simp [execOp, ho, resolve, invoke, builtin]
        split at h
        · next k a k' b hx hy => exact ⟨_, h, still_of hex fun F => by simp [Builtin.max_, Builtin.max2, hx, hy, wk_pure]⟩
        · exact h.elim
      · exact h.elim
    all_goals exact (h : False).elim
  all_goals exact (h : False).elim
end Go.Al
/- The logic of a known part of memory, 5: the operations that look at memory or make some; regions and statements told step by step. It holds for every program. -/
namespace Go.Al
open Go

def cellsL : Value → List Value
  | .agg cs => cs.toList
  | v => [v]
theorem cells_toList (v : Value) : v.cells.toList = cellsL v := by cases v <;> rfl
/-- vs into cs from off on. -/
def putL (cs : List Value) (off : Nat) : List Value → List Value
  | [] => cs
  | v :: vs => putL (cs.set off v) (off + 1) vs
theorem length_putL (vs : List Value) : ∀ (cs : List Value) (off : Nat), (putL cs off vs).length = cs.length := by
  induction vs with
  | nil => intro cs off; rfl
  | cons v vs ih => intro cs off; rw [putL, ih, List.length_set]
def fillL (place : Nat → Option (Nat × Nat)) (cs : List Value) : List (Nat × Value) → Option (List Value)
  | [] => some cs
  | (i, v) :: rest =>
    match place i with
    | none => none
    | some (off, size) => bif Nat.beq (cellsL v).length size && Nat.ble (off + size) cs.length then fillL place (putL cs off (cellsL v)) rest else none
theorem foldl_put (vs : List Value) : ∀ (k : Nat) (cs : Array Value) (off : Nat),
    ((vs.zipIdx k).foldl (fun cs (p : Value × Nat) => cs.setIfInBounds (off + p.2) p.1) cs).toList = putL cs.toList (off + k) vs := by
  induction vs with
  | nil => intro k cs off; rfl
  | cons v vs ih =>
    intro k cs off
    rw [List.zipIdx_cons, List.foldl_cons, ih, putL, Nat.add_assoc]
    congr 1
    simp
theorem fill_eq {place : Nat → Option (Nat × Nat)} : ∀ (parts : List (Nat × Value)) (cs : Array Value) (l : List Value), fillL place cs.toList parts = some l → Instr.fill place cs parts = some l.toArray := by
  intro parts
  induction parts with
  | nil => intro cs l h; obtain rfl := Option.some.inj h; simp [Instr.fill]
  | cons p rest ih =>
    intro cs l h
    obtain ⟨i, v⟩ := p
    unfold fillL at h
    unfold Instr.fill
    cases hp : place i with
    | none => simp only [hp] at h; cases h
    | some os =>
      obtain ⟨off, size⟩ := os
      simp only [hp] at h ⊢
      cases hc : (Nat.beq (cellsL v).length size && Nat.ble (off + size) cs.toList.length) with
      | false => rw [hc] at h; cases h
      | true =>
        rw [hc, cond_true] at h
        obtain ⟨h1, h2⟩ := Bool.and_eq_true_iff.1 hc
        have h1 := Nat.eq_of_beq_eq_true h1
        have h2 := Nat.le_of_ble_eq_true h2
        have hsz : v.cells.size = size := by rw [← h1, ← cells_toList]; simp
        rw [if_neg (by rw [hsz]; simp; simpa using h2)]
        refine ih _ l ?_
        have := foldl_put (cellsL v) 0 cs off
        rw [Nat.add_zero] at this
        rw [← h]
        congr 1
        rw [← this, ← cells_toList, ← Array.foldl_toList, Array.toList_zipIdx]

/-- A test on a Bool that the walk parts at. -/
def CondK (b : Bool) (p q : Prop) : Prop := bif b then p else q
theorem CondK.yes {b : Bool} {p q : Prop} (h : CondK b p q) (e : b = true) : p := by subst e; exact h
theorem CondK.no {b : Bool} {p q : Prop} (h : CondK b p q) (e : b = false) : q := by subst e; exact h
theorem cond_split {b : Bool} {p q : Prop} (h : b = true → p) (k : b = false → q) : bif b then p else q := by
  cases b
  · exact k rfl
  · exact h rfl
/-- A call. -/
structure CallK (P : Program) (f : FuncId) (args : Array Value) (F : Heap) (K : Value → Heap → Prop) : Prop where
  out : wk P (callFunc f args) F (nextK P K)
theorem call_of {P : Program} {f : FuncId} {args : Array Value} {F : Heap} {R K : Value → Heap → Prop} (h : FnK P f args F R) (hk : ∀ v F', R v F' → K v F') : CallK P f args F K := by
  obtain ⟨fn, h1, h2, h3⟩ := h.1
  refine ⟨?_⟩
  simp only [callFunc, wk_bind, wk_program, h1, h2, h3, Bool.false_eq_true, if_false, wk_pure]
  exact h.mono hk
/-- Any other operation. -/
structure OpK (P : Program) (o : Oper) (ev : Operand → Value) (F : Heap) (K : Value → Heap → Prop) : Prop where
  out : opW P o ev F K
structure LoadK (F : Heap) (a : Addr) (K : Value → Prop) : Prop where
  out : ∃ v, F.cell? a = some v ∧ K v
structure LoadsK (F : Heap) (a : Addr) (n : Nat) (K : Value → Prop) : Prop where
  out : ∃ c e fz, F a.block = some (.cells c e fz) ∧ a.spot = none ∧ a.off + n ≤ c.size ∧ K (.agg (c.extract a.off (a.off + n)))
/-- What isn't frozen. -/
def thawed (fz : Nat × Nat) (off n : Nat) : Prop := fz.2 ≤ fz.1 ∨ off + n ≤ fz.1
structure StoreK (F : Heap) (a : Addr) (vs : List Value) (K : Value → Heap → Prop) : Prop where
  out : ∃ c e fz, F a.block = some (.cells c e fz) ∧ a.spot = none ∧ a.off + vs.length ≤ c.size ∧ thawed fz a.off vs.length ∧ (∀ v ∈ vs, v.oneCell' = true) ∧ K undef (F.put a.block (.cells (putL c.toList a.off vs).toArray e fz))
structure NewK (F : Heap) (o : Obj) (K : Nat → Heap → Prop) : Prop where
  out : ∀ b, F b = none → K b (F.put b o)

def placesK (T : Tab) (fs : List Field) (i : Nat) : Option (Nat × Nat) := match fs[i]? with | some f => (match T f.type with | some d => some (f.offset, d.size) | none => none) | none => none
def allT (T : Tab) : List Field → Bool
  | [] => true
  | f :: fs => hasT T f.type && allT T fs
def zcells (d : TD) : Option (List Value) := match d.zero with | some z => some (cellsL z) | none => none
def buildK (T : Tab) (t : TypeId) (parts : List (Nat × Value)) (K : Value → Prop) : Prop :=
  match T t with
  | some d => (match zcells d with
    | some z => (match d.desc with
      | .struct fs => bif allT T fs.toList then (match fillL (placesK T fs.toList) z parts with | some cs => K (.agg cs.toArray) | none => False) else False
      | .array _ e => bif hasT T e then (match fillL (fun i => some (i * sizeK T e, sizeK T e)) z parts with | some cs => K (.agg cs.toArray) | none => False) else False
      | _ => False)
    | none => False)
  | none => False
/-- n zeros. -/
def zerosL (z : List Value) : Nat → List Value
  | 0 => []
  | n + 1 => z ++ zerosL z n
def memK (P : Program) (T : Tab) (o : Oper) (ev : Operand → Value) (F : Heap) (K : Value → Heap → Prop) : Prop :=
  match o.op with
  | .load t a => (match T t, ev a with
    | some d, .pointer (some ad) => bif aggD d.desc then LoadsK F ad d.size (fun v => K v F) else LoadK F ad (fun v => K v F)
    | _, _ => False)
  | .store t a x => (match T t, ev a with
    | some d, .pointer (some ad) => bif Nat.beq (cellsL (ev x)).length d.size then StoreK F ad (cellsL (ev x)) K else False
    | _, _ => False)
  | .box e x => NewK F (.cells (cellsL (ev x)).toArray e) (fun b F' => K (.pointer (some ⟨b, 0, none⟩)) F')
  | .alloc e => (match T e with
    | some d => (match zcells d with | some z => NewK F (.cells z.toArray e) (fun b F' => K (.pointer (some ⟨b, 0, none⟩)) F') | none => False)
    | none => False)
  | .build t parts => buildK T t (parts.toList.map fun p => (p.1, ev p.2)) (fun v => K v F)
  | .buildSlice t n parts => (match T t with
    | some ⟨_, _, .slice e, _⟩ => (match T e with
      | some d => (match zcells d with
        | some z => bif Nat.beq z.length d.size && Nat.ble (n * d.size) 16777216 && Nat.blt 0 d.size then
            (match fillL (fun i => some (i * d.size, d.size)) (zerosL z n) (parts.toList.map fun p => (p.1, ev p.2)) with
              | some cs => NewK F (.cells cs.toArray e) (fun b F' => K (.slice (some ⟨b, 0, none⟩) n n) F')
              | none => False)
          else False
        | none => False)
      | none => False)
    | _ => False)
  | .call ⟨.value f, args, _⟩ => (match ev f with
    | .func (.func g) first captured => CallK P g (first.toList ++ args.toList.map ev ++ captured.toList).toArray F K
    | _ => False)
  | _ => OpK P o ev F K
def isVal : Op → Bool
  | .move _ | .assign _ | .pick .. | .binOp .. | .unOp .. | .convert .. | .extract .. | .indexAddr .. | .index .. | .fieldAddr .. | .field .. | .nilCheck _ | .makeInterface .. | .makeFunc .. | .slice .. => true
  | .call ⟨.builtin .len, _, _⟩ | .call ⟨.builtin .cap, _, _⟩ | .call ⟨.builtin .min, _, _⟩ | .call ⟨.builtin .max, _, _⟩ => true
  | _ => false
def stepK (P : Program) (T : Tab) (o : Oper) (ev : Operand → Value) (F : Heap) (K : Value → Heap → Prop) : Prop :=
  bif isVal o.op then valK T o.op ev (fun v => K v F) else memK P T o ev F K

theorem wk_loadCellsFrom {P : Program} {F : Heap} {a : Addr} {c : Array Value} {e : TypeId} {fz : Nat × Nat} (hb : F a.block = some (.cells c e fz)) (hs : a.spot = none) : ∀ (n i : Nat) (acc : Array Value) (K : Array Value → Heap → Prop),
    a.off + i + n ≤ c.size → K (acc ++ c.extract (a.off + i) (a.off + i + n)) F → wk P (loadCellsFrom a i n acc) F K := by
  intro n
  induction n with
  | zero =>
    intro i acc K hl h
    have e0 : acc ++ c.extract (a.off + i) (a.off + i + 0) = acc := by simp; omega
    rw [e0] at h
    exact h
  | succ n ih =>
    intro i acc K hl h
    rw [loadCellsFrom, wk_bind]
    have hlt : a.off + i < c.size := by omega
    have hc : F.cell? (a.add i) = some c[a.off + i] := by
      have h1 : (a.add i).block = a.block := by unfold Addr.add; split <;> rfl
      have h2 : (a.add i).spot = none := by unfold Addr.add; split <;> first | exact hs | rfl
      have h3 : (a.add i).off = a.off + i := by unfold Addr.add; split <;> simp_all
      unfold Heap.cell?
      rw [h1, hb]
      simp only [h2, h3, Option.isSome_none, Bool.false_eq_true, if_false]
      simp [hlt]
    refine wk_load hc _ ?_
    refine ih (i + 1) _ K (by omega) ?_
    have he : acc.push c[a.off + i] ++ c.extract (a.off + (i + 1)) (a.off + (i + 1) + n) = acc ++ c.extract (a.off + i) (a.off + i + (n + 1)) := by
      apply Array.ext'
      simp only [Array.toList_append, Array.toList_push, Array.toList_extract, List.append_assoc, List.extract_eq_take_drop]
      congr 1
      have h5 : c.toList.drop (a.off + i) = c[a.off + i] :: c.toList.drop (a.off + i + 1) := by
        rw [List.drop_eq_getElem_cons (by simpa using hlt)]; simp
      rw [h5, show a.off + i + (n + 1) - (a.off + i) = n + 1 by omega, List.take_succ_cons, show a.off + (i + 1) + n - (a.off + (i + 1)) = n by omega]
      rfl
    rw [he]
    exact h
theorem wk_storeCells {P : Program} {a : Addr} {e : TypeId} {fz : Nat × Nat} (hs : a.spot = none) : ∀ (vs : List Value) (i : Nat) (F : Heap) (c : Array Value) (K : Unit → Heap → Prop), F a.block = some (.cells c e fz) →
    a.off + i + vs.length ≤ c.size → (fz.2 ≤ fz.1 ∨ a.off + i + vs.length ≤ fz.1) → (∀ v ∈ vs, v.oneCell' = true) → K () (F.put a.block (.cells (putL c.toList (a.off + i) vs).toArray e fz)) → wk P (storeCells a vs i) F K := by
  intro vs
  induction vs with
  | nil =>
    intro i F c K hb hl hz h1 h
    have : F.put a.block (.cells (putL c.toList (a.off + i) []).toArray e fz) = F := by
      funext k
      simp only [Heap.put, putL]
      split
      · next hk => subst hk; rw [hb]
      · rfl
    rw [this] at h
    exact h
  | cons v vs ih =>
    intro i F c K hb hl hz h1 h
    rw [List.length_cons] at hl hz
    have e1 : (a.add i).block = a.block := by unfold Addr.add; split <;> rfl
    have e2 : (a.add i).spot = none := by unfold Addr.add; split <;> first | exact hs | rfl
    have e3 : (a.add i).off = a.off + i := by unfold Addr.add; split <;> simp_all
    have hlt : a.off + i < c.size := by omega
    rw [storeCells, wk_bind]
    refine ⟨h1 v (by simp), ⟨c[a.off + i], ?_⟩, ?_, ?_⟩
    · unfold Heap.cell?
      rw [e1, hb]
      simp only [e2, e3, Option.isSome_none, Bool.false_eq_true, if_false]
      simp [hlt]
    · unfold Heap.frozen?
      obtain ⟨lo, hi⟩ := fz
      rw [e1, hb]
      simp only [e3, Option.some.injEq, Bool.and_eq_false_imp, decide_eq_true_eq, decide_eq_false_iff_not]
      simp only at hz
      omega
    · have hset : F.setCell (a.add i) v = F.put a.block (.cells (c.setIfInBounds (a.off + i) v) e fz) := by
        have := Heap.setCell_of (F := F) (a := a.add i) (c := c) (e := e) (fz := fz) (by rw [e1]; exact hb) v
        rw [this, e1, e2, e3]
        rfl
      rw [hset]
      refine ih (i + 1) _ (c.setIfInBounds (a.off + i) v) K (Heap.put_same _ _ _) (by simp; omega) (by omega) (fun u hu => h1 u (by simp [hu])) ?_
      have hpp : ∀ o o' : Obj, (F.put a.block o).put a.block o' = F.put a.block o' := by
        intro o o'
        funext k
        simp only [Heap.put]
        split <;> rfl
      rw [hpp]
      have : putL (c.setIfInBounds (a.off + i) v).toList (a.off + (i + 1)) vs = putL c.toList (a.off + i) (v :: vs) := by
        rw [putL]; simp [Nat.add_assoc]
      rw [this]
      exact h

theorem wk_loadVar {P : Program} {T : Tab} (hT : TabOk P T) {t : TypeId} {d : TD} (ht : T t = some d) {F : Heap} {a : Addr} {K : Value → Heap → Prop}
    (h : bif aggD d.desc then LoadsK F a d.size (fun v => K v F) else LoadK F a (fun v => K v F)) : wk P (loadVar t a) F K := by
  obtain ⟨hu, i, hi, hs, _, _⟩ := hT _ _ ht
  unfold loadVar
  rw [wk_bind, wk_isAgg hu]
  cases ha : aggD d.desc with
  | true =>
    rw [ha, cond_true] at h
    obtain ⟨c, e, fz, hb, hsp, hl, hk⟩ := h.out
    simp only [if_true, wk_bind, wk_sizeOf hi, hs]
    refine wk_loadCellsFrom hb hsp d.size 0 #[] _ (by omega) ?_
    simpa [wk_pure] using hk
  | false =>
    rw [ha, cond_false] at h
    obtain ⟨v, hv, hk⟩ := h.out
    simp only [Bool.false_eq_true, if_false]
    exact wk_load hv _ hk
theorem wk_storeVar {P : Program} {T : Tab} (hT : TabOk P T) {t : TypeId} {d : TD} (ht : T t = some d) {F : Heap} {a : Addr} {x : Value} {K : Unit → Heap → Prop} (hn : (cellsL x).length = d.size)
    (h : StoreK F a (cellsL x) (fun _ F' => K () F')) : wk P (storeVar t a x) F K := by
  obtain ⟨hu, i, hi, hs, _, _⟩ := hT _ _ ht
  obtain ⟨c, e, fz, hb, hsp, hl, hz, h1, hk⟩ := h.out
  unfold storeVar
  have hsz : x.cells.size = i.size := by rw [hs, ← hn, ← cells_toList]; simp
  rw [wk_bind, wk_sizeOf hi, if_neg (by rw [hsz]; simp)]
  rw [cells_toList]
  exact wk_storeCells hsp (cellsL x) 0 F c K hb (by omega) (by unfold thawed at hz; omega) h1 (by simpa using hk)
theorem run_new {P : Program} {F : Heap} {o : Obj} {K : Nat → Heap → Prop} (h : NewK F o K) : wk P (newObj o) F K := fun b hb => h.out b hb
theorem allT_mem {T : Tab} : ∀ {fs : List Field}, allT T fs = true → ∀ f ∈ fs, ∃ d, T f.type = some d ∧ sizeK T f.type = d.size := by
  intro fs
  induction fs with
  | nil => intro _ f hf; cases hf
  | cons f fs ih =>
    intro h g hg
    simp only [allT, Bool.and_eq_true] at h
    rcases List.mem_cons.1 hg with rfl | hg
    · exact hasT_some h.1
    · exact ih h.2 g hg
theorem wk_mapM_mem {P : Program} {α β : Type} (f : α → Sem β) (g : α → β) (F : Heap) : ∀ (l : List α) (_ : ∀ x ∈ l, ∀ K, wk P (f x) F K ↔ K (g x) F) (K : List β → Heap → Prop), K (l.map g) F → wk P (l.mapM f) F K := by
  intro l
  induction l with
  | nil => intro _ K h; simpa [wk_pure] using h
  | cons x l ih =>
    intro hf K h
    rw [List.mapM_cons, wk_bind, hf x (by simp), wk_bind]
    exact ih (fun y hy => hf y (by simp [hy])) _ h
theorem buildK_sound {P : Program} {T : Tab} (hT : TabOk P T) {t : TypeId} {parts : Array (Nat × Value)} {F : Heap} {K : Value → Heap → Prop} (h : buildK T t parts.toList (fun v => K v F)) : wk P (Instr.build t parts) F K := by
  unfold buildK at h
  cases ht : T t with
  | none => rw [ht] at h; exact h.elim
  | some d =>
    rw [ht] at h
    obtain ⟨hu, i, hi, hs, hb, hz⟩ := hT _ _ ht
    dsimp only at h
    cases hzc : zcells d with
    | none => rw [hzc] at h; exact h.elim
    | some z =>
      rw [hzc] at h
      dsimp only at h
      obtain ⟨zv, hzv, hzl⟩ : ∃ zv, d.zero = some zv ∧ zv.cells.toList = z := by
        unfold zcells at hzc
        cases hd : d.zero with
        | none => rw [hd] at hzc; cases hzc
        | some zv => rw [hd] at hzc; exact ⟨zv, rfl, by rw [cells_toList]; exact Option.some.inj hzc⟩
      unfold Instr.build
      rw [wk_bind, wk_zeroValue hi (hz.trans hzv), wk_bind, wk_underlying hu]
      cases hd : d.desc <;> rw [hd] at h <;> first | exact h.elim | skip
      case array n e =>
        dsimp only at h ⊢
        obtain ⟨he, h⟩ := cond_of h
        obtain ⟨de, hde, hse⟩ := hasT_some he
        obtain ⟨_, ie, hie, hsz, _⟩ := hT _ _ hde
        rw [wk_bind, wk_sizeOf hie, hsz, ← hse]
        split at h
        · next cs hcs => rw [fill_eq parts.toList zv.cells cs (by rw [hzl]; exact hcs)]; exact h
        · exact h.elim
      case struct fs =>
        dsimp only at h ⊢
        obtain ⟨he, h⟩ := cond_of h
        obtain ⟨l, rfl⟩ : ∃ l, fs = List.toArray l := ⟨fs.toList, by simp⟩
        simp only [wk_bind, List.mapM_toArray, wk_map]
        refine wk_mapM_mem _ (fun f => (f.offset, sizeK T f.type)) F l (fun f hf K => ?_) _ ?_
        · obtain ⟨df, hdf, hsf⟩ := allT_mem he f hf
          obtain ⟨_, ie, hie, hsz, _⟩ := hT _ _ hdf
          rw [wk_bind, wk_sizeOf hie, hsz, ← hsf]
          exact Iff.rfl
        · split at h
          · next cs hcs =>
            have hpl : (fun x => (List.map (fun f : Field => (f.offset, sizeK T f.type)) l).toArray[x]?) = placesK T l := by
              funext x
              unfold placesK
              simp only [List.getElem?_toArray, List.getElem?_map]
              cases hx : l[x]? with
              | none => rfl
              | some f =>
                obtain ⟨df, hdf, hsf⟩ := allT_mem he f (List.mem_of_getElem? hx)
                simp only [Option.map_some, hdf, hsf]
            rw [hpl, fill_eq parts.toList zv.cells cs (by rw [hzl]; exact hcs)]
            exact h
          · exact h.elim
theorem zeros_eq (z : Array Value) (n : Nat) : ((Array.range (n * z.size)).map (z[· % z.size]!)).toList = zerosL z.toList n := by
  induction n with
  | zero => simp [zerosL]
  | succ n ih =>
    have h1 : zerosL z.toList (n + 1) = zerosL z.toList n ++ z.toList := by
      clear ih
      induction n with
      | zero => simp [zerosL]
      | succ n ih =>
        show z.toList ++ zerosL z.toList (n + 1) = (z.toList ++ zerosL z.toList n) ++ z.toList
        rw [ih, List.append_assoc]
    rw [h1, ← ih, Nat.succ_mul]
    simp only [Array.toList_map, Array.toList_range, List.range_add, List.map_append, List.map_map]
    congr 1
    apply List.ext_getElem
    · simp
    · intro i h1 h2
      have h3 : i < z.size := by simpa using h2
      simp [Nat.add_mod, Nat.mod_eq_of_lt h3, h3]
theorem memK_sound {P : Program} {T : Tab} (hT : TabOk P T) {o : Oper} {ev : Operand → Value} {F : Heap} {K : Value → Heap → Prop} (h : memK P T o ev F K) : opW P o ev F K := by
  unfold memK at h
  cases ho : o.op <;> rw [ho] at h <;> (try dsimp only at h) <;> first | exact h.out | skip
  case load t a =>
    split at h
    · next d ad ht ha =>
      refine opW_v (s := Instr.loadAt t (ev a)) (by simp only [execOp, ho]) ?_
      rw [ha]
      simp only [Instr.loadAt, Instr.sureAddr, wk_bind, wk_pure]
      exact wk_loadVar hT ht h
    · exact h.elim
  case store t a x =>
    split at h
    · next d ad ht ha =>
      obtain ⟨hn, h⟩ := cond_of h
      refine opW_wk ?_
      simp only [execOp, ho, ha, Instr.storeAt, Instr.sureAddr, wk_bind, wk_pure]
      exact wk_storeVar hT ht (Nat.eq_of_beq_eq_true hn) ⟨by obtain ⟨c, e, fz, h1, h2, h3, h4, h5, h6⟩ := h.out; exact ⟨c, e, fz, h1, h2, h3, h4, h5, h6⟩⟩
    · exact h.elim
  case box e x =>
    refine opW_v (s := Instr.box e (ev x)) (by simp only [execOp, ho]) ?_
    simp only [Instr.box, newVar, newRow, wk_bind, wk_pure]
    refine run_new ⟨fun b hb => ?_⟩
    have := h.out b hb
    rw [← cells_toList] at this
    simpa using this
  case alloc e =>
    split at h
    case h_2 => exact h.elim
    case h_1 d ht =>
      obtain ⟨hu, i, hi, hs, hb, hz⟩ := hT _ _ ht
      split at h
      case h_2 => exact h.elim
      case h_1 z hzc =>
        unfold zcells at hzc
        cases hd : d.zero with
        | none => rw [hd] at hzc; cases hzc
        | some zv =>
          rw [hd] at hzc
          obtain rfl := Option.some.inj hzc
          refine opW_v (s := Instr.alloc e true (.tuple #[])) (by simp only [execOp, ho]) ?_
          simp only [Instr.alloc, wk_bind, wk_zeroValue hi (hz.trans hd), newVar, newRow, wk_pure]
          refine run_new ⟨fun b hb => ?_⟩
          have := h.out b hb
          rw [← cells_toList] at this
          simpa using this
  case build t parts =>
    refine opW_v (s := Instr.build t (parts.map fun (i, x) => (i, ev x))) (by simp only [execOp, ho]) ?_
    exact buildK_sound hT (by simpa using h)
  case buildSlice t n parts =>
    split at h
    case h_2 => exact h.elim
    case h_1 s_ b_ e z_ ht =>
      obtain ⟨hu, _⟩ := hT _ _ ht
      split at h
      case h_2 => exact h.elim
      case h_1 d hd =>
        obtain ⟨_, i, hi, hs, hb, hz⟩ := hT _ _ hd
        split at h
        case h_2 => exact h.elim
        case h_1 z hzc =>
          obtain ⟨hc, h⟩ := cond_of h
          obtain ⟨hc, h0⟩ := Bool.and_eq_true_iff.1 hc
          obtain ⟨h1, h2⟩ := Bool.and_eq_true_iff.1 hc
          have h1 := Nat.eq_of_beq_eq_true h1
          have h2 := Nat.le_of_ble_eq_true h2
          have h0 : 0 < d.size := Nat.le_of_ble_eq_true h0
          split at h
          case h_2 => exact h.elim
          case h_1 cs hcs =>
            obtain ⟨zv, hzv, hzl⟩ : ∃ zv, d.zero = some zv ∧ zv.cells.toList = z := by
              unfold zcells at hzc
              cases hd : d.zero with
              | none => rw [hd] at hzc; cases hzc
              | some zv => rw [hd] at hzc; exact ⟨zv, rfl, by rw [cells_toList]; exact Option.some.inj hzc⟩
            have hzs : zv.cells.size = d.size := by rw [← h1, ← hzl]; simp
            refine opW_v (s := Instr.buildSlice t n (parts.map fun (i, x) => (i, ev x))) (by simp only [execOp, ho]) ?_
            unfold Instr.buildSlice
            rw [wk_bind, wk_underlying hu]
            dsimp only
            rw [wk_bind, wk_sizeOf hi, hs, if_neg (by omega)]
            have hfill : Instr.fill (fun i => some (i * d.size, d.size)) ((Array.range (n * d.size)).map (zv.cells[· % zv.cells.size]!)) (parts.map fun (i, x) => (i, ev x)).toList = some cs.toArray := by
              refine fill_eq _ _ cs ?_
              rw [← hzs, zeros_eq, hzl]
              rw [← hzs] at hcs
              simpa using hcs
            by_cases hn : n * d.size = 0
            · have hn0 : n = 0 := by
                rcases Nat.mul_eq_zero.1 hn with h | h
                · exact h
                · omega
              subst hn0
              rw [if_pos hn, wk_bind, wk_pure]
              have : ((Array.range (0 * d.size)).map ((#[] : Array Value)[· % (#[] : Array Value).size]!)) = ((Array.range (0 * d.size)).map (zv.cells[· % zv.cells.size]!)) := by simp
              rw [this, hfill]
              simp only [newRow, wk_bind, wk_pure]
              exact run_new h
            · rw [if_neg hn, wk_bind, wk_zeroValue hi (hz.trans hzv), wk_bind, wk_pure, hfill]
              simp only [newRow, wk_bind, wk_pure]
              exact run_new h
  case call c =>
    obtain ⟨cal, args, ts⟩ := c
    cases cal with
    | invoke r m => exact h.out
    | builtin b => exact h.out
    | value f =>
      dsimp only at h
      split at h
      · next g first captured hf =>
        have hargs : first ++ Array.map ev args ++ captured = (first.toList ++ args.toList.map ev ++ captured.toList).toArray := Array.toList_inj.1 (by simp)
        refine opW_wk ?_
        simp only [execOp, ho, resolve, wk_bind, wk_pure, hf, Deferred.ofValue, invoke]
        rw [hargs]
        exact h.out
      · exact h.elim

theorem stepK_sound {P : Program} {T : Tab} (hT : TabOk P T) {o : Oper} {ev : Operand → Value} {F : Heap} {K : Value → Heap → Prop} (h : stepK P T o ev F K) : opW P o ev F K := by
  unfold stepK at h
  cases hv : isVal o.op with
  | true =>
    rw [hv, cond_true] at h
    obtain ⟨v, hk, hs⟩ := valK_sound hT rfl h
    exact opW_mono (hs F) fun u F' ⟨e1, e2⟩ => by subst e1; subst e2; exact hk
  | false =>
    rw [hv, cond_false] at h
    exact memK_sound hT h
end Go.Al
/- The logic of a known part of memory, 5b: texts into bytes and back. It holds for every program. -/
namespace Go.Al
open Go

def isAggT (T : Tab) (t : TypeId) : Bool := match T t with | some d => aggD d.desc | none => false
def convB (T : Tab) (o : Op) : Bool := match o with | .convert s d _ => isSliceT T s || isSliceT T d | .binOp _ t _ _ _ => isAggT T t | .buildSlice _ n _ => Nat.blt 12 n | _ => false
/-- An operation in its own order. -/
def stepB (P : Program) (T : Tab) (o : Oper) (ev : Operand → Value) (F : Heap) (K : Value → Heap → Prop) : Prop :=
  bif convB T o.op then OpK P o ev F K else stepK P T o ev F K
theorem stepB_sound {P : Program} {T : Tab} (hT : TabOk P T) {o : Oper} {ev : Operand → Value} {F : Heap} {K : Value → Heap → Prop} (h : stepB P T o ev F K) : opW P o ev F K := by
  unfold stepB at h
  cases hv : convB T o.op with
  | true => rw [hv, cond_true] at h; exact h.out
  | false => rw [hv, cond_false] at h; exact stepK_sound hT h
end Go.Al
/- The logic of a known part of memory, 6: a function's text told step by step; where it parts, loops, calls or draws its order, the teller stops. It holds for every program. -/
namespace Go.Al
open Go

theorem opsW_mono {P : Program} {all : Array Oper} {K K' : Env → Heap → Prop} (hk : ∀ env F, K env F → K' env F) : ∀ (l : List Oper) (env : Env) (F : Heap), opsW P all K l env F → opsW P all K' l env F := by
  intro l
  induction l with
  | nil => intro env F h; exact hk _ _ h
  | cons o rest ih =>
    intro env F h
    simp only [opsW] at h ⊢
    split
    · next hg => simp only [hg] at h; exact opV_mono h fun v F' => ih _ _
    · next j want hg =>
      simp only [hg] at h
      split
      · next b hy =>
        simp only [hy] at h
        exact ⟨fun e => opV_mono (h.1 e) fun v F' => ih _ _, fun e => ih _ _ (h.2 e)⟩
      · next hy => simp only [hy] at h; exact ih _ _ h
theorem codeW_mono {P : Program} : ∀ (c : Code) {Q Q' : Exit → Env → Heap → Prop}, (∀ e env F, Q e env F → Q' e env F) → ∀ env F, codeW P c Q env F → codeW P c Q' env F := by
  intro c
  induction c with
  | skip => intro Q Q' hq env F h; exact hq _ _ _ h
  | label l => intro Q Q' hq env F h; exact hq _ _ _ h
  | exit l => intro Q Q' hq env F h; exact hq _ _ _ h
  | ret => intro Q Q' hq env F h; exact hq _ _ _ h
  | goto l => intro Q Q' hq env F h; exact h.elim
  | refuse l => intro Q Q' hq env F h; exact h.elim
  | rangeFunc f ps x y =>
    intro Q Q' hq env F h n a w w0 h1 h2 h3 h4 h5
    exact wp_mono (h n a w w0 h1 h2 h3 h4 h5) fun e a w ⟨env, F, g1, g2, g3, g4, g5⟩ => ⟨env, F, g1, g2, g3, g4, hq _ _ _ g5⟩
  | region id ops draw =>
    intro Q Q' hq env F h
    simp only [codeW] at h ⊢
    cases draw with
    | true =>
      intro m n a w w0 id R h1 h2 h3 h4 h5 h6
      exact h m n a w w0 id R h1 (fun env F hq' => h2 env F (hq _ _ _ hq')) h3 h4 h5 h6
    | false => exact opsW_mono (fun env F => hq _ env F) _ _ _ h
  | seq x y ihx ihy =>
    intro Q Q' hq env F h
    refine ihx (fun e env F h => ?_) env F h
    cases e <;> first | exact ihy hq env F h | exact hq _ _ _ h
  | cond c x y ihx ihy =>
    intro Q Q' hq env F h
    simp only [codeW] at h ⊢
    split
    · next t ht => simp only [ht] at h; exact ⟨fun e => ihx hq _ _ (h.1 e), fun e => ihy hq _ _ (h.2 e)⟩
    · next hn => split at h <;> first | exact h.elim | (rename_i t ht; exact (hn t ht).elim)
  | block id c ih =>
    intro Q Q' hq env F h
    refine ih (fun e env F h => ?_) env F h
    cases e <;> first
      | exact hq _ _ _ h
      | (rename_i i; simp only [blockE] at h ⊢; cases hb : Nat.beq i id <;> rw [hb] at h <;> simp only [cond_true, cond_false] at h ⊢ <;> exact hq _ _ _ h)
  | scope c ih =>
    intro Q Q' hq env F h
    refine ih (fun e env F h => ?_) env F h
    cases e <;> first | exact h | exact hq _ _ _ h
  | loop c ih =>
    intro Q Q' hq env F h
    obtain ⟨I, m, h0, hr⟩ := h
    refine ⟨I, m, h0, fun m env F hI => ih (fun e env F h => ?_) env F (hr m env F hI)⟩
    cases e <;> first | exact h | exact hq _ _ _ h

/-- The temporary that a test read, written out. -/
def condE (c : Operand) (b : Bool) (env : Env) : Env :=
  match c with
  | .tmp t => env.set (some t) (.bool b)
  | _ => env
theorem condE_eq {c : Operand} {b : Bool} {env : Env} (h : env.ev c = .bool b) : condE c b env = env := by
  cases c <;> try rfl
  funext t
  rename_i s
  simp only [condE, Env.set]
  cases hb : Nat.beq t s with
  | false => rfl
  | true => rw [cond_true, ← h, Nat.eq_of_beq_eq_true hb]; rfl
def guardE (all : Array Oper) (j : Nat) (b : Bool) (env : Env) : Env :=
  match (all[j]?).bind (·.dst) with
  | some t => env.set (some t) (.bool b)
  | none => env
theorem guardE_eq {all : Array Oper} {j : Nat} {b : Bool} {env : Env} (h : yieldedE all env j = some b) : guardE all j b env = env := by
  unfold yieldedE at h
  unfold guardE
  cases hd : (all[j]?).bind (·.dst) with
  | none => rfl
  | some t =>
    rw [hd] at h
    dsimp only at h ⊢
    have ht : env t = .bool b := by
      cases he : env t <;> rw [he] at h <;> first | (cases h; done) | (obtain rfl := Option.some.inj h; rfl)
    exact condE_eq (c := .tmp t) ht
/-- An operation in its own order, a yield too. -/
def stepY (P : Program) (T : Tab) (o : Oper) (ev : Operand → Value) (F : Heap) (K : Value → Heap → Prop) : Prop :=
  match o.op with
  | .call ⟨.value f, args, _⟩ => (match ev f with
    | .func (.yield l) ⟨[]⟩ ⟨[]⟩ => YieldK P l (args.toList.map ev).toArray F K
    | _ => stepB P T o ev F K)
  | _ => stepB P T o ev F K
theorem stepY_sound {P : Program} {T : Tab} (hT : TabOk P T) {o : Oper} {ev : Operand → Value} {F : Heap} {K : Value → Heap → Prop} (h : stepY P T o ev F K) : opV P o ev F K := by
  unfold stepY at h
  split at h
  · next f args ts ho =>
    split at h
    · next l hf =>
      refine .inr ⟨f, args, ts, l, ho, hf, ?_⟩
      have hm : Array.map ev args = (args.toList.map ev).toArray := Array.toList_inj.1 (by simp)
      rw [hm]; exact h
    · exact .inl (stepB_sound hT h)
  · exact .inl (stepB_sound hT h)
/-- Operations in their own order, told step by step. -/
def opsStep (P : Program) (T : Tab) (all : Array Oper) (o : Oper) (ih : Env → Heap → Prop) (env : Env) (F : Heap) : Prop :=
    match o.guard with
    | none => stepY P T o env.ev F fun v F' => ih (env.set o.dst v) F'
    | some (j, want) => match yieldedE all env j with
      | some b => CondK (match want with | true => b | false => !b) (stepY P T o (guardE all j want env).ev F fun v F' => ih ((guardE all j want env).set o.dst v) F') (ih ((guardE all j (!want) env).set o.dst undef) F)
      | none => ih (env.set o.dst undef) F
def opsK (P : Program) (T : Tab) (all : Array Oper) (K : Env → Heap → Prop) (l : List Oper) : Env → Heap → Prop :=
  List.rec (motive := fun _ => Env → Heap → Prop) K (fun o _ ih => opsStep P T all o ih) l
theorem opsK_eq {P : Program} {T : Tab} {all : Array Oper} {K : Env → Heap → Prop} {o : Oper} {l : List Oper} {env : Env} {F : Heap} : opsK P T all K (o :: l) env F = opsStep P T all o (opsK P T all K l) env F := rfl
theorem opsK_sound {P : Program} {T : Tab} (hT : TabOk P T) {all : Array Oper} {K : Env → Heap → Prop} : ∀ (l : List Oper) (env : Env) (F : Heap), opsK P T all K l env F → opsW P all K l env F := by
  intro l
  induction l with
  | nil => intro env F h; exact h
  | cons o rest ih =>
    intro env F h
    simp only [opsK_eq, opsStep] at h
    simp only [opsW]
    split
    · next hg => simp only [hg] at h; exact opV_mono (stepY_sound hT h) fun v F' => ih _ _
    · next j want hg =>
      simp only [hg] at h
      split
      · next b hy =>
        simp only [hy] at h
        refine ⟨fun e => ?_, fun e => ?_⟩
        · subst e
          have h := h.yes (by cases b <;> rfl)
          rw [guardE_eq hy] at h
          exact opV_mono (stepY_sound hT h) fun v F' => ih _ _
        · subst e
          have h := h.no (by cases want <;> rfl)
          rw [guardE_eq hy] at h
          exact ih _ _ h
      · next hy => simp only [hy] at h; exact ih _ _ h
structure DrawK (P : Program) (T : Tab) (ops : Array Oper) (K : Env → Heap → Prop) (env : Env) (F : Heap) : Prop where
  out : DrawW P ops K env F
structure LoopK (body : (Exit → Env → Heap → Prop) → Env → Heap → Prop) (Q : Exit → Env → Heap → Prop) (env : Env) (F : Heap) : Prop where
  out : ∃ (I : Nat → Env → Heap → Prop) (m : Nat), I m env F ∧ ∀ m env F, I m env F → body (thenE (fun env' F' => ∃ m', m' < m ∧ I m' env' F') Q) env F
structure RangeK (P : Program) (f : Operand) (ps : Array Tmp) (x y : Code) (Q : Exit → Env → Heap → Prop) (env : Env) (F : Heap) : Prop where
  out : RangeW P f ps x y Q (fun n => okDst true n (.rangeFunc f ps x y)) env F
/-- What a statement comes to, told step by step. -/
def condStep (c : Operand) (X Y : Env → Heap → Prop) (env : Env) (F : Heap) : Prop :=
  match env.ev c with
  | .bool t => CondK t (X (condE c true env) F) (Y (condE c false env) F)
  | _ => False
def regionStep (P : Program) (T : Tab) (ops : Array Oper) (draw : Bool) (Q : Exit → Env → Heap → Prop) (env : Env) (F : Heap) : Prop :=
  match draw with
  | true => DrawK P T ops (Q .normal) env F
  | false => opsK P T ops (Q .normal) ops.toList env F
def codeK (P : Program) (T : Tab) (c : Code) : (Exit → Env → Heap → Prop) → Env → Heap → Prop :=
  Code.rec (motive := fun _ => (Exit → Env → Heap → Prop) → Env → Heap → Prop)
    (fun Q env F => Q .normal env F)
    (fun _ ops draw Q env F => regionStep P T ops draw Q env F)
    (fun _ _ iha ihb Q env F => iha (thenE (ihb Q) Q) env F)
    (fun c _ _ iha ihb Q env F => condStep c (iha Q) (ihb Q) env F)
    (fun id _ ih Q env F => ih (blockE id Q) env F)
    (fun _ ih Q env F => LoopK ih Q env F)
    (fun f ps x y _ _ Q env F => RangeK P f ps x y Q env F)
    (fun id Q env F => Q (.exit id) env F)
    (fun _ ih Q env F => ih (scopeE Q) env F)
    (fun _ Q env F => Q .normal env F)
    (fun _ _ _ _ => False)
    (fun Q env F => Q .ret env F)
    (fun _ _ _ _ => False) c
theorem codeK_sound {P : Program} {T : Tab} (hT : TabOk P T) : ∀ (c : Code) (Q : Exit → Env → Heap → Prop) (env : Env) (F : Heap), codeK P T c Q env F → codeW P c Q env F := by
  intro c
  induction c with
  | skip => intro Q env F h; exact h
  | label l => intro Q env F h; exact h
  | exit l => intro Q env F h; exact h
  | ret => intro Q env F h; exact h
  | goto l => intro Q env F h; exact h.elim
  | refuse l => intro Q env F h; exact h.elim
  | rangeFunc f ps x y => intro Q env F h; exact h.out
  | region id ops draw =>
    intro Q env F h
    cases draw with
    | true => exact h.out
    | false => exact opsK_sound hT _ _ _ h
  | seq x y ihx ihy =>
    intro Q env F h
    refine codeW_mono x (fun e env F h => ?_) env F (ihx _ env F h)
    cases e <;> first | exact ihy _ _ _ h | exact h
  | cond c x y ihx ihy =>
    intro Q env F h
    change condStep c (codeK P T x Q) (codeK P T y Q) env F at h
    unfold condStep at h
    simp only [codeW]
    split at h
    · next t ht =>
      try rw [ht]
      refine ⟨fun e => ?_, fun e => ?_⟩
      · subst e; have h := ihx _ _ _ (h.yes rfl); rwa [condE_eq ht] at h
      · subst e; have h := ihy _ _ _ (h.no rfl); rwa [condE_eq ht] at h
    · exact h.elim
  | block id c ih => intro Q env F h; exact ih _ _ _ h
  | scope c ih => intro Q env F h; exact ih _ _ _ h
  | loop c ih =>
    intro Q env F h
    obtain ⟨I, m, h0, hr⟩ := h.out
    exact ⟨I, m, h0, fun m env F hI => ih _ _ _ (hr m env F hI)⟩
/-- The slots are as told; of the others nothing is known. -/
def slotsE (ρ : Env) : List Nat → List Value → Env
  | s :: ss, v :: vs => fun t => bif Nat.beq t s then v else slotsE ρ ss vs t
  | _, _ => ρ
theorem slotsE_self (env : Env) : ∀ ss : List Nat, slotsE env ss (ss.map env) = env := by
  intro ss
  induction ss with
  | nil => rfl
  | cons s ss ih =>
    funext t
    simp only [List.map_cons, slotsE, ih]
    cases h : Nat.beq t s with
    | true => rw [cond_true, Nat.eq_of_beq_eq_true h]
    | false => rfl
/-- A loop, by what its slots hold round by round. -/
theorem loop_slots {body : (Exit → Env → Heap → Prop) → Env → Heap → Prop} {Q : Exit → Env → Heap → Prop} {env : Env} {F : Heap} (ss : List Nat) (I : Nat → List Value → Heap → Prop) (m : Nat) (h0 : I m (ss.map env) F)
    (round : ∀ m vs F ρ, I m vs F → body (thenE (fun env' F' => ∃ m', m' < m ∧ I m' (ss.map env') F') Q) (slotsE ρ ss vs) F) : LoopK body Q env F :=
  ⟨fun m env F => I m (ss.map env) F, m, h0, fun m env F hI => by
    have := round m (ss.map env) F env hI
    rwa [slotsE_self] at this⟩
theorem fn_walk {P : Program} {T : Tab} (hT : TabOk P T) {f : FuncId} {fn : Func} {c : Code} {l : List Value} {F : Heap} {R : Value → Heap → Prop} (hf : P.funcs[f]? = some fn) (hb : fn.body = some c) (hnm : (fn.name == "runtime.NumGoroutine") = false) (ha : Nat.ble l.length fn.ntmps = true) (hd : okDst false fn.ntmps c = true)
    (h : codeK P T c (retE P fn R) (enterE l) F) : FnK P f l.toArray F R :=
  FnK.of_body hf hb hnm (by simpa using ha) hd (codeK_sound hT c _ _ F h)
/-- A table that is written out. -/
def tabGo : List (Nat × TD) → Tab
  | [], _ => none
  | (k, d) :: l, t => bif Nat.beq t k then some d else tabGo l t
def TabAll (P : Program) : List (Nat × TD) → Prop
  | [] => True
  | (k, d) :: l => (P.underlying k = some d.desc ∧ (P.info? k).map (fun i => (i.size, i.bytes, i.zero)) = some (d.size, d.bytes, d.zero)) ∧ TabAll P l
theorem tabGo_ok {P : Program} : ∀ {l : List (Nat × TD)}, TabAll P l → TabOk P (tabGo l) := by
  intro l
  induction l with
  | nil => intro _ t d h; cases h
  | cons p l ih =>
    intro h t d ht
    obtain ⟨k, e⟩ := p
    obtain ⟨⟨h1, h2⟩, h⟩ := h
    unfold tabGo at ht
    cases hk : Nat.beq t k with
    | true =>
      rw [hk, cond_true] at ht
      obtain rfl := Option.some.inj ht
      obtain rfl := Nat.eq_of_beq_eq_true hk
      obtain ⟨i, hi, he⟩ := Option.map_eq_some_iff.1 h2
      simp only [Prod.mk.injEq] at he
      exact ⟨h1, i, hi, he.1, he.2.1, he.2.2⟩
    | false => rw [hk, cond_false] at ht; exact ih h t d ht
end Go.Al
/- The logic of a known part of memory, 7: a region that draws its order, told in one order. What moves memory stands in one row; what only looks may come later than it is told. It holds for every program that follows mixed orders. -/
namespace Go.Al
open Go

/-- Which operations stand ahead of each: a mask each, by the edges that bind. -/
def maskGo : List Oper → List Nat → List Nat
  | [], acc => acc
  | o :: rest, acc => maskGo rest (acc ++ [o.after.toList.foldr (fun e s => bif Region.binds .any e then s ||| (2 ^ e.on ||| acc.getD e.on 0) else s) 0])
def isStill (op : Op) : Bool := isVal op || (match op with | .load _ _ => true | _ => false)
def readsOf (ops : Array Oper) (o : Oper) : List Nat := o.looksAt ops
def bit (M : List Nat) (i k : Nat) : Bool := (M.getD i 0).testBit k
def checkGo (ops : Array Oper) (M : List Nat) : List Nat → List Nat → Bool
  | _, [] => true
  | done, i :: rest =>
    (match ops[i]? with
    | none => false
    | some o =>
      (o.after.toList.all fun e => !Region.binds .any e || done.contains e.on) &&
      (done.all fun m => (match ops[m]? with | some p => isStill p.op | none => false) || bit M i m) &&
      ((List.range ops.size).all fun k => Nat.beq k i || (match ops[k]? with
        | some p => (match p.dst with
          | some t => (!(readsOf ops o).contains t || bit M i k || bit M k i) && (match o.dst with | some d => !Nat.beq d t | none => true)
          | none => true)
        | none => true)) &&
      (match o.op with | .select _ _ => false | _ => true)) &&
    !done.contains i && checkGo ops M (i :: done) rest
def drawOk (ops : Array Oper) (σ : List Nat) : Bool := checkGo ops (maskGo ops.toList []) [] σ && (List.range ops.size).all fun i => σ.contains i
def soloB (ops : Array Oper) (M : List Nat) (done : List Nat) (i : Nat) : Bool := done.all fun j => (match ops[j]? with | some p => isVal p.op || !isStill p.op | none => true) || bit M i j
/-- The region, told in the order σ. -/
def drawStep (P : Program) (T : Tab) (ops : Array Oper) (M : List Nat) (i : Nat) (ih : List Nat → Env → Heap → Prop) (done : List Nat) (env : Env) (F : Heap) : Prop :=
    match ops[i]? with
    | none => False
    | some o =>
      match o.guard with
      | none => stepK P T o env.ev F fun v F' => bif isStill o.op || soloB ops M done i then ih (i :: done) (env.set o.dst v) F' else (Ext F F' ∧ ih (i :: done) (env.set o.dst v) F')
      | some (j, want) => match yieldedE ops env j with
        | some b => CondK (match want with | true => b | false => !b)
            (stepK P T o (guardE ops j want env).ev F fun v F' => bif isStill o.op || soloB ops M done i then ih (i :: done) ((guardE ops j want env).set o.dst v) F' else (Ext F F' ∧ ih (i :: done) ((guardE ops j want env).set o.dst v) F'))
            (ih (i :: done) ((guardE ops j (!want) env).set o.dst undef) F)
        | none => ih (i :: done) (env.set o.dst undef) F
def drawGo (P : Program) (T : Tab) (ops : Array Oper) (M : List Nat) (K : Env → Heap → Prop) (done l : List Nat) : Env → Heap → Prop :=
  (List.rec (motive := fun _ => List Nat → Env → Heap → Prop) (fun _ => K) (fun i _ ih => drawStep P T ops M i ih) l : List Nat → Env → Heap → Prop) done
theorem drawGo_eq {P : Program} {T : Tab} {ops : Array Oper} {M : List Nat} {K : Env → Heap → Prop} {done rest : List Nat} {i : Nat} {env : Env} {F : Heap} : drawGo P T ops M K done (i :: rest) env F = drawStep P T ops M i (fun d => drawGo P T ops M K d rest) done env F := rfl

/-- What only looks. -/
theorem load_still {P : Program} {T : Tab} (hT : TabOk P T) {o : Oper} {t : TypeId} {x : Operand} (ho : o.op = .load t x) {ev : Operand → Value} {F : Heap} {K : Value → Heap → Prop} (h : memK P T o ev F K) :
    ∃ v, K v F ∧ ∀ F', Ext F F' → opW P o ev F' (fun u F'' => u = v ∧ F'' = F') := by
  unfold memK at h
  rw [ho] at h
  dsimp only at h
  split at h
  case h_2 => exact h.elim
  case h_1 d ad ht ha =>
    have key : ∀ (F' : Heap) (L : Value → Heap → Prop), (bif aggD d.desc then LoadsK F' ad d.size (fun v => L v F') else LoadK F' ad (fun v => L v F')) → opW P o ev F' L := by
      intro F' L hL
      refine opW_v (s := Instr.loadAt t (ev x)) (by simp only [execOp, ho]) ?_
      rw [ha]
      simp only [Instr.loadAt, Instr.sureAddr, wk_bind, wk_pure]
      exact wk_loadVar hT ht hL
    cases hd : aggD d.desc with
    | true =>
      rw [hd, cond_true] at h
      obtain ⟨c, e, fz, hb, hs, hl, hk⟩ := h.out
      refine ⟨_, hk, fun F' hF => key F' _ ?_⟩
      rw [hd, cond_true]
      exact ⟨c, e, fz, hF _ _ hb, hs, hl, rfl, rfl⟩
    | false =>
      rw [hd, cond_false] at h
      obtain ⟨v, hv, hk⟩ := h.out
      refine ⟨v, hk, fun F' hF => key F' _ ?_⟩
      rw [hd, cond_false]
      exact ⟨v, hF.cell hv, rfl, rfl⟩
theorem step_still {P : Program} {T : Tab} (hT : TabOk P T) {o : Oper} (hs : isStill o.op = true) {ev : Operand → Value} {F : Heap} {K : Value → Heap → Prop} (h : stepK P T o ev F K) :
    ∃ v, K v F ∧ (∀ F', Ext F F' → opW P o ev F' (fun u F'' => u = v ∧ F'' = F')) ∧ (isVal o.op = true → ∀ F', opW P o ev F' (fun u F'' => u = v ∧ F'' = F')) := by
  unfold stepK at h
  cases hv : isVal o.op with
  | true =>
    rw [hv, cond_true] at h
    obtain ⟨v, hk, hst⟩ := valK_sound hT rfl h
    exact ⟨v, hk, fun F' _ => hst F', fun _ => hst⟩
  | false =>
    rw [hv, cond_false] at h
    unfold isStill at hs
    rw [hv, Bool.false_or] at hs
    cases ho : o.op <;> rw [ho] at hs <;> first | (cases hs; done) | skip
    obtain ⟨v, hk, hst⟩ := load_still hT ho h
    exact ⟨v, hk, hst, fun e => by cases e⟩

/-- A set of operations with all that stand ahead of them. -/
def Closed (ops : Array Oper) (L : Nat → Bool) : Prop := ∀ (k : Nat) (o : Oper), ops[k]? = some o → L k = true → ∀ e ∈ o.after, Region.binds .any e = true → L e.on = true
def Ahead (ops : Array Oper) (L : Nat → Bool) (i : Nat) : Prop := ∀ (o : Oper), ops[i]? = some o → ∀ e ∈ o.after, Region.binds .any e = true → L e.on = true
theorem foldr_bit (acc : List Nat) (j : Nat) : ∀ (l : List Edge), (l.foldr (fun e s => bif Region.binds .any e then s ||| (2 ^ e.on ||| acc.getD e.on 0) else s) 0).testBit j = true →
    ∃ e ∈ l, Region.binds .any e = true ∧ (e.on = j ∨ (acc.getD e.on 0).testBit j = true) := by
  intro l
  induction l with
  | nil => intro h; simp at h
  | cons e l ih =>
    intro h
    rw [List.foldr_cons] at h
    cases hb : Region.binds .any e with
    | false =>
      rw [hb, cond_false] at h
      obtain ⟨e', h1, h2⟩ := ih h
      exact ⟨e', by simp [h1], h2⟩
    | true =>
      rw [hb, cond_true, Nat.testBit_or, Nat.testBit_or, Bool.or_eq_true, Bool.or_eq_true] at h
      rcases h with h | h | h
      · obtain ⟨e', h1, h2⟩ := ih h
        exact ⟨e', by simp [h1], h2⟩
      · refine ⟨e, by simp, hb, .inl ?_⟩
        rw [Nat.testBit_two_pow] at h
        simpa using h
      · exact ⟨e, by simp, hb, .inr h⟩
theorem maskGo_sound {ops : Array Oper} : ∀ (l : List Oper) (acc : List Nat), ops.toList.drop acc.length = l →
    (∀ i j, (acc.getD i 0).testBit j = true → ∀ L, Closed ops L → Ahead ops L i → L j = true) →
    ∀ i j, ((maskGo l acc).getD i 0).testBit j = true → ∀ L, Closed ops L → Ahead ops L i → L j = true := by
  intro l
  induction l with
  | nil => intro acc _ h; exact h
  | cons o rest ih =>
    intro acc hd h
    refine ih _ (by rw [List.length_append, List.length_singleton, ← List.tail_drop, hd]; rfl) ?_
    intro i j hj L hL hi
    by_cases hlt : i < acc.length
    · rw [List.getD_eq_getElem?_getD, List.getElem?_append_left hlt, ← List.getD_eq_getElem?_getD] at hj
      exact h i j hj L hL hi
    · rw [List.getD_eq_getElem?_getD, List.getElem?_append_right (by omega)] at hj
      by_cases hi0 : i - acc.length = 0
      · have hie : i = acc.length := by omega
        rw [hi0] at hj
        simp only [List.getElem?_cons_zero, Option.getD_some] at hj
        obtain ⟨e, he, hb, hej⟩ := foldr_bit acc j _ hj
        have ho : ops[i]? = some o := by
          have : ops.toList[i]? = some o := by rw [hie, ← List.head?_drop, hd]; rfl
          simpa using this
        have hLe : L e.on = true := hi o ho e (by simpa using he) hb
        rcases hej with rfl | hej
        · exact hLe
        · exact h e.on j hej L hL (fun p hp e' he' hb' => hL e.on p hp hLe e' he' hb')
      · obtain ⟨m, hm⟩ : ∃ m, i - acc.length = m + 1 := ⟨i - acc.length - 1, by omega⟩
        rw [hm] at hj
        simp at hj
theorem mask_sound {ops : Array Oper} {i j : Nat} (h : bit (maskGo ops.toList []) i j = true) {L : Nat → Bool} (hL : Closed ops L) (hi : Ahead ops L i) : L j = true :=
  maskGo_sound ops.toList [] (by simp) (fun i j h => by simp at h) i j h L hL hi

/-- Who writes a temporary. -/
def writer (ops : Array Oper) (t : Nat) : Option Nat := (List.range ops.size).find? fun k => match ops[k]? with | some p => p.dst == some t | none => false
def WV (ops : Array Oper) (env0 : Env) (S : Nat → Bool) (v : Nat → Value) : Env := fun t =>
  match writer ops t with
  | some k => bif S k then v k else env0 t
  | none => env0 t
theorem writer_some {ops : Array Oper} {t k : Nat} (h : writer ops t = some k) : ∃ p, ops[k]? = some p ∧ p.dst = some t ∧ k < ops.size := by
  have h1 := List.find?_some h
  have h2 := List.mem_of_find?_eq_some h
  cases hp : ops[k]? with
  | none => simp [hp] at h1
  | some p => exact ⟨p, rfl, by simpa [hp] using h1, by simpa using h2⟩
theorem WV_congr {ops : Array Oper} {env0 : Env} {S S' : Nat → Bool} {v v' : Nat → Value} {t : Nat} (h : ∀ k, writer ops t = some k → S k = S' k ∧ (S k = true → v k = v' k)) : WV ops env0 S v t = WV ops env0 S' v' t := by
  unfold WV
  cases hw : writer ops t with
  | none => rfl
  | some k =>
    obtain ⟨h1, h2⟩ := h k hw
    dsimp only
    rw [← h1]
    cases hS : S k with
    | true => rw [cond_true, cond_true, h2 hS]
    | false => rfl

def wantedE (ops : Array Oper) (env : Env) (o : Oper) : Bool := match o.guard with | none => true | some (j, w) => yieldedE ops env j == some w
theorem wanted_of {ops : Array Oper} {n : Nat} {env : Env} {a : Act} (h : Ag n env a) (o : Oper) : Region.wanted o (yielded ops a.tmps) = wantedE ops env o := by
  unfold Region.wanted wantedE
  cases o.guard with
  | none => rfl
  | some p => obtain ⟨j, w⟩ := p; simp only [yielded_of h]
theorem drawGo_cons {P : Program} {T : Tab} (hT : TabOk P T) {ops : Array Oper} {M : List Nat} {K : Env → Heap → Prop} {done rest : List Nat} {i : Nat} {o : Oper} {E : Env} {F : Heap} (ho : ops[i]? = some o) (h : drawGo P T ops M K done (i :: rest) E F) :
    (wantedE ops E o = false ∧ drawGo P T ops M K (i :: done) rest (E.set o.dst undef) F) ∨
    (wantedE ops E o = true ∧ isStill o.op = true ∧ ∃ x, (∀ F', Ext F F' → opW P o E.ev F' (fun u F'' => u = x ∧ F'' = F')) ∧ (isVal o.op = true → ∀ F', opW P o E.ev F' (fun u F'' => u = x ∧ F'' = F')) ∧ drawGo P T ops M K (i :: done) rest (E.set o.dst x) F) ∨
    (wantedE ops E o = true ∧ isStill o.op = false ∧ opW P o E.ev F (fun x F' => (soloB ops M done i = true ∨ Ext F F') ∧ drawGo P T ops M K (i :: done) rest (E.set o.dst x) F')) := by
  have run : ∀ (_ : wantedE ops E o = true), (stepK P T o E.ev F fun v F' => bif isStill o.op || soloB ops M done i then drawGo P T ops M K (i :: done) rest (E.set o.dst v) F' else (Ext F F' ∧ drawGo P T ops M K (i :: done) rest (E.set o.dst v) F')) →
      (wantedE ops E o = true ∧ isStill o.op = true ∧ ∃ x, (∀ F', Ext F F' → opW P o E.ev F' (fun u F'' => u = x ∧ F'' = F')) ∧ (isVal o.op = true → ∀ F', opW P o E.ev F' (fun u F'' => u = x ∧ F'' = F')) ∧ drawGo P T ops M K (i :: done) rest (E.set o.dst x) F) ∨
      (wantedE ops E o = true ∧ isStill o.op = false ∧ opW P o E.ev F (fun x F' => (soloB ops M done i = true ∨ Ext F F') ∧ drawGo P T ops M K (i :: done) rest (E.set o.dst x) F')) := by
    intro hw hs
    cases hst : isStill o.op with
    | true =>
      obtain ⟨x, h1, h2, h3⟩ := step_still hT hst hs
      rw [hst, Bool.true_or, cond_true] at h1
      exact .inl ⟨hw, rfl, x, h2, h3, h1⟩
    | false =>
      refine .inr ⟨hw, rfl, opW_mono (stepK_sound hT hs) fun v F' hv => ?_⟩
      rw [hst, Bool.false_or] at hv
      cases hso : soloB ops M done i with
      | true => rw [hso, cond_true] at hv; exact ⟨.inl rfl, hv⟩
      | false => rw [hso, cond_false] at hv; exact ⟨.inr hv.1, hv.2⟩
  rw [drawGo_eq] at h
  unfold drawStep at h
  rw [ho] at h
  dsimp only at h
  cases hg : o.guard with
  | none =>
    rw [hg] at h
    exact .inr (run (by simp [wantedE, hg]) h)
  | some p =>
    obtain ⟨j, want⟩ := p
    rw [hg] at h
    dsimp only at h
    cases hy : yieldedE ops E j with
    | none =>
      rw [hy] at h
      exact .inl ⟨by simp [wantedE, hg, hy], h⟩
    | some b =>
      rw [hy] at h
      dsimp only at h
      by_cases hb : b = want
      · subst hb
        have h := h.yes (by cases b <;> rfl)
        rw [guardE_eq hy] at h
        exact .inr (run (by simp [wantedE, hg, hy]) h)
      · have hb' : b = !want := by cases b <;> cases want <;> simp_all
        subst hb'
        have h := h.no (by cases want <;> rfl)
        rw [guardE_eq hy] at h
        exact .inl ⟨by simp [wantedE, hg, hy], h⟩

/-- What the check says of one operation. -/
structure Chk (ops : Array Oper) (M : List Nat) (done : List Nat) (i : Nat) (o : Oper) : Prop where
  get : ops[i]? = some o
  ahead : ∀ e ∈ o.after, Region.binds .any e = true → e.on ∈ done
  moved : ∀ m ∈ done, ∀ p, ops[m]? = some p → isStill p.op = false → bit M i m = true
  apart : ∀ k p t, ops[k]? = some p → k ≠ i → p.dst = some t → (t ∈ o.looksAt ops → bit M i k = true ∨ bit M k i = true) ∧ (∀ d, o.dst = some d → d ≠ t)
  plain : ∀ cs b, o.op ≠ .select cs b
  new : i ∉ done
theorem check_cons {ops : Array Oper} {M done rest : List Nat} {i : Nat} (h : checkGo ops M done (i :: rest) = true) : (∃ o, Chk ops M done i o) ∧ checkGo ops M (i :: done) rest = true := by
  simp only [checkGo, Bool.and_eq_true] at h
  obtain ⟨⟨h, hn⟩, hr⟩ := h
  refine ⟨?_, hr⟩
  cases ho : ops[i]? with
  | none => rw [ho] at h; cases h
  | some o =>
    rw [ho] at h
    simp only [Bool.and_eq_true, List.all_eq_true] at h
    obtain ⟨⟨⟨h1, h2⟩, h3⟩, h4⟩ := h
    refine ⟨o, ho, fun e he hb => ?_, fun m hm p hp hs => ?_, fun k p t hp hk ht => ?_, fun cs b e => ?_, by simpa using hn⟩
    · have := h1 e (by simpa using he)
      rw [hb] at this
      simpa using this
    · have := h2 m hm
      rw [hp] at this
      simpa [hs] using this
    · have hlt : k < ops.size := (Array.getElem?_eq_some_iff.1 hp).1
      have := h3 k (by simpa using hlt)
      rw [beq_ne hk, Bool.false_or, hp] at this
      dsimp only at this
      rw [ht] at this
      simp only [Bool.and_eq_true, Bool.or_eq_true] at this
      obtain ⟨g1, g2⟩ := this
      refine ⟨fun hm => ?_, fun d hd => ?_⟩
      · rcases g1 with (g | g) | g
        · simp [readsOf, hm] at g
        · exact .inl g
        · exact .inr g
      · rw [hd] at g2
        intro e
        subst e
        simp [Nat.beq_refl] at g2
    · rw [e] at h4; cases h4
theorem check_moved {ops : Array Oper} {M : List Nat} : ∀ {l done : List Nat} {i : Nat}, checkGo ops M done l = true → i ∈ l → ∀ m ∈ done, ∀ p, ops[m]? = some p → isStill p.op = false → bit M i m = true := by
  intro l
  induction l with
  | nil => intro done i _ h; cases h
  | cons x l ih =>
    intro done i h hi m hm p hp hs
    obtain ⟨⟨o, hc⟩, hr⟩ := check_cons h
    rcases List.mem_cons.1 hi with rfl | hi
    · exact hc.moved m hm p hp hs
    · exact ih hr hi m (by simp [hm]) p hp hs
theorem WV_set {ops : Array Oper} {i : Nat} {o : Oper} (hget : ops[i]? = some o) (huniq : ∀ k p t, ops[k]? = some p → k ≠ i → p.dst = some t → ∀ d, o.dst = some d → d ≠ t) {env0 : Env} {S S' : Nat → Bool} {v v' : Nat → Value} (hS : ∀ k, k ≠ i → S' k = S k) (hi : S' i = true) (hv : ∀ k, k ≠ i → v' k = v k) :
    (WV ops env0 S v).set o.dst (v' i) = WV ops env0 S' v' := by
  funext t
  cases hd : o.dst with
  | none =>
    simp only [Env.set]
    refine WV_congr fun k hk => ?_
    obtain ⟨p, hp, hpt, _⟩ := writer_some hk
    have hki : k ≠ i := by rintro rfl; rw [hget] at hp; obtain rfl := Option.some.inj hp; rw [hd] at hpt; cases hpt
    exact ⟨(hS k hki).symm, fun _ => (hv k hki).symm⟩
  | some d =>
    simp only [Env.set]
    by_cases ht : t = d
    · subst ht
      rw [Nat.beq_refl, cond_true]
      have hw : writer ops t = some i := by
        cases hw : writer ops t with
        | none =>
          have := List.find?_eq_none.1 hw i (by simpa using (Array.getElem?_eq_some_iff.1 hget).1)
          simp [hget, hd] at this
        | some k =>
          obtain ⟨p, hp, hpt, _⟩ := writer_some hw
          by_cases hki : k = i
          · rw [hki]
          · exact absurd rfl (huniq k p t hp hki hpt t hd)
      unfold WV
      rw [hw]
      dsimp only
      rw [hi, cond_true]
    · rw [beq_ne ht, cond_false]
      refine WV_congr fun k hk => ?_
      obtain ⟨p, hp, hpt, _⟩ := writer_some hk
      have hki : k ≠ i := by
        rintro rfl
        rw [hget] at hp
        obtain rfl := Option.some.inj hp
        rw [hd] at hpt
        exact ht (Option.some.inj hpt).symm
      exact ⟨(hS k hki).symm, fun _ => (hv k hki).symm⟩
theorem agree {ops : Array Oper} {i : Nat} {o : Oper} (hc : ∀ k p t, ops[k]? = some p → k ≠ i → p.dst = some t → t ∈ o.looksAt ops → bit (maskGo ops.toList []) i k = true ∨ bit (maskGo ops.toList []) k i = true) {env0 : Env} {S S' : Nat → Bool} {v : Nat → Value}
    (h1 : ∀ k, bit (maskGo ops.toList []) i k = true → S k = true ∧ S' k = true) (h2 : ∀ k, bit (maskGo ops.toList []) k i = true → S k = false ∧ S' k = false) (h3 : S i = false ∧ S' i = false) {t : Nat} (ht : t ∈ o.looksAt ops) : WV ops env0 S v t = WV ops env0 S' v t := by
  refine WV_congr fun k hk => ⟨?_, fun _ => rfl⟩
  obtain ⟨p, hp, hpt, _⟩ := writer_some hk
  by_cases hki : k = i
  · rw [hki, h3.1, h3.2]
  · rcases hc k p t hp hki hpt ht with h | h
    · rw [(h1 k h).1, (h1 k h).2]
    · rw [(h2 k h).1, (h2 k h).2]
theorem ev_agree {ops : Array Oper} {o : Oper} {E E' : Env} (h : ∀ t ∈ o.looksAt ops, E t = E' t) : ∀ x ∈ o.op.operands, E.ev x = E'.ev x := by
  intro x hx
  cases x with
  | tmp t =>
    refine h t ?_
    unfold Oper.looksAt
    rw [List.mem_append]
    exact .inl (List.mem_filterMap.2 ⟨.tmp t, by simpa using hx, rfl⟩)
  | _ => rfl
theorem wantedE_agree {ops : Array Oper} {o : Oper} {E E' : Env} (h : ∀ t ∈ o.looksAt ops, E t = E' t) : wantedE ops E o = wantedE ops E' o := by
  unfold wantedE
  cases hg : o.guard with
  | none => rfl
  | some p =>
    obtain ⟨j, w⟩ := p
    dsimp only
    have : yieldedE ops E j = yieldedE ops E' j := by
      unfold yieldedE
      cases hd : (ops[j]?).bind (·.dst) with
      | none => rfl
      | some t =>
        dsimp only
        rw [h t (by unfold Oper.looksAt; rw [List.mem_append, hg]; dsimp only; rw [hd]; exact .inr (by simp))]
    rw [this]
theorem opW_congr {P : Program} {o : Oper} {ev ev' : Operand → Value} (hs : ∀ cs b, o.op ≠ .select cs b) (h : ∀ x ∈ o.op.operands, ev x = ev' x) {F : Heap} {K : Value → Heap → Prop} : opW P o ev F K ↔ opW P o ev' F K := by
  unfold opW
  rw [execOp_congr o hs h]

/-- An operation that is told and not yet done. -/
structure Pend (P : Program) (ops : Array Oper) (env0 : Env) (done : List Nat) (v : Nat → Value) (F : Heap) (i : Nat) (o : Oper) (D : Nat → Bool) : Prop where
  get : ops[i]? = some o
  still : isStill o.op = true
  plain : ∀ cs b, o.op ≠ .select cs b
  apart : ∀ k p t, ops[k]? = some p → k ≠ i → p.dst = some t → t ∈ o.looksAt ops → bit (maskGo ops.toList []) i k = true ∨ bit (maskGo ops.toList []) k i = true
  uniq : ∀ k p t, ops[k]? = some p → k ≠ i → p.dst = some t → ∀ d, o.dst = some d → d ≠ t
  anc : ∀ k, bit (maskGo ops.toList []) i k = true → D k = true
  des : ∀ k, D k = true → bit (maskGo ops.toList []) k i = false
  self : D i = false
  sub : ∀ k, D k = true → k ∈ done
  skip : wantedE ops (WV ops env0 D v) o = false → v i = undef
  run : wantedE ops (WV ops env0 D v) o = true → ∀ F', Ext F F' → opW P o (WV ops env0 D v).ev F' (fun u F'' => u = v i ∧ F'' = F')
  pure : wantedE ops (WV ops env0 D v) o = true → isVal o.op = true → ∀ F', opW P o (WV ops env0 D v).ev F' (fun u F'' => u = v i ∧ F'' = F')
/-- Told and done, side by side. -/
structure Inv (P : Program) (T : Tab) (ops : Array Oper) (K : Env → Heap → Prop) (env0 : Env) (m0 : Bool) (n : Nat) (w0 : World) (L : Nat → Bool) (a : Act) (w : World) (done rest : List Nat) (v : Nat → Value) (F : Heap) : Prop where
  check : checkGo ops (maskGo ops.toList []) done rest = true
  full : ∀ i, i < ops.size → i ∈ done ∨ i ∈ rest
  got : ∀ i ∈ done, ∃ o, ops[i]? = some o
  closed : Closed ops (fun k => done.contains k)
  sub : ∀ i, L i = true → i ∈ done
  lclosed : Closed ops L
  size : a.tmps.size = n
  held : Held m0 w0.heap.size a.defers w
  val : ∀ t, a.tmps.getD t undef = WV ops env0 L v t
  told : drawGo P T ops (maskGo ops.toList []) K done rest (WV ops env0 (fun k => done.contains k) v) F
  has : Has F w
  rst : Rest w0 w
  pend : ∀ i ∈ done, L i = false → ∃ o D, Pend P ops env0 done v F i o D
theorem Inv.ag {P : Program} {T : Tab} {ops : Array Oper} {K : Env → Heap → Prop} {env0 : Env} {m0 : Bool} {n : Nat} {w0 : World} {L : Nat → Bool} {a : Act} {w : World} {done rest : List Nat} {v : Nat → Value} {F : Heap} (h : Inv P T ops K env0 m0 n w0 L a w done rest v F) : Ag n (WV ops env0 L v) a := ⟨h.size, h.val⟩
theorem WV_new {ops : Array Oper} {env0 : Env} {S : Nat → Bool} {v v' : Nat → Value} {i : Nat} (hS : S i = false) (hv : ∀ k, k ≠ i → v' k = v k) : WV ops env0 S v' = WV ops env0 S v := by
  funext t
  refine WV_congr fun k _ => ⟨rfl, fun hk => hv k ?_⟩
  rintro rfl
  rw [hS] at hk; cases hk
/-- One more is told that only looks, or that isn't wanted: it is done later. -/
theorem Inv.push {P : Program} {T : Tab} {ops : Array Oper} {K : Env → Heap → Prop} {env0 : Env} {m0 : Bool} {n : Nat} {w0 : World} {L : Nat → Bool} {a : Act} {w : World} {done rest : List Nat} {v : Nat → Value} {F : Heap} {i : Nat} {o : Oper} (h : Inv P T ops K env0 m0 n w0 L a w done (i :: rest) v F)
    (hc : Chk ops (maskGo ops.toList []) done i o) (hst : isStill o.op = true) (x : Value)
    (hskip : wantedE ops (WV ops env0 (fun k => done.contains k) v) o = false → x = undef)
    (hrun : wantedE ops (WV ops env0 (fun k => done.contains k) v) o = true → (∀ F', Ext F F' → opW P o (WV ops env0 (fun k => done.contains k) v).ev F' (fun u F'' => u = x ∧ F'' = F')) ∧ (isVal o.op = true → ∀ F', opW P o (WV ops env0 (fun k => done.contains k) v).ev F' (fun u F'' => u = x ∧ F'' = F')))
    (ht : drawGo P T ops (maskGo ops.toList []) K (i :: done) rest ((WV ops env0 (fun k => done.contains k) v).set o.dst x) F) :
    Inv P T ops K env0 m0 n w0 L a w (i :: done) rest (fun k => if k = i then x else v k) F := by
  have hLi : L i = false := by
    cases hL : L i with
    | false => rfl
    | true => exact absurd (h.sub i hL) hc.new
  have hvv : ∀ k, k ≠ i → (fun k => if k = i then x else v k) k = v k := fun k hk => by simp [hk]
  have hDi : (fun k => done.contains k) i = false := by simpa using hc.new
  refine ⟨(check_cons h.check).2, fun k hk => ?_, fun k hk => ?_, fun k p hp hk e he hb => ?_, fun k hk => List.mem_cons_of_mem _ (h.sub k hk), h.lclosed, h.size, h.held, fun t => ?_, ?_, h.has, h.rst, fun k hk hL => ?_⟩
  · rcases h.full k hk with h1 | h1
    · exact .inl (List.mem_cons_of_mem _ h1)
    · rcases List.mem_cons.1 h1 with rfl | h1
      · exact .inl (by simp)
      · exact .inr h1
  · rcases List.mem_cons.1 hk with rfl | hk
    · exact ⟨o, hc.get⟩
    · exact h.got k hk
  · have hk : k ∈ i :: done := by simpa using hk
    have : e.on ∈ i :: done := by
      rcases List.mem_cons.1 hk with rfl | hk
      · rw [hc.get] at hp; obtain rfl := Option.some.inj hp
        exact List.mem_cons_of_mem _ (hc.ahead e he hb)
      · have := h.closed k p hp (by simpa using hk) e he hb
        exact List.mem_cons_of_mem _ (by simpa using this)
    simpa using this
  · rw [h.val t, WV_new hLi hvv]
  · have := WV_set (v' := fun k => if k = i then x else v k) hc.get (fun k p t hp hk ht => (hc.apart k p t hp hk ht).2) (env0 := env0) (S := fun k => done.contains k) (S' := fun k => (i :: done).contains k) (v := v) (fun k hk => by simp [hk]) (by simp) hvv
    simp only [if_true] at this
    rw [← this]
    exact ht
  · rcases List.mem_cons.1 hk with rfl | hk
    · refine ⟨o, fun k => done.contains k, hc.get, hst, hc.plain, fun k' p t hp hk' hpt ht' => (hc.apart k' p t hp hk' hpt).1 ht', fun k' p t hp hk' hpt => (hc.apart k' p t hp hk' hpt).2, fun k' hk' => ?_, fun k' hk' => ?_, hDi, fun k' hk' => List.mem_cons_of_mem _ (by simpa using hk'), ?_, ?_, ?_⟩
      · exact mask_sound hk' h.closed (fun p hp e he hb => by rw [hc.get] at hp; obtain rfl := Option.some.inj hp; simpa using hc.ahead e he hb)
      · cases hb : bit (maskGo ops.toList []) k' k with
        | false => rfl
        | true =>
          have := mask_sound hb h.closed (fun p hp e he hb => h.closed k' p hp hk' e he hb)
          exact absurd (this.symm.trans hDi) (by decide)
      · rw [WV_new hDi hvv]; intro hw; simp [hskip hw]
      · rw [WV_new hDi hvv]; intro hw F' hF; exact opW_mono ((hrun hw).1 F' hF) fun u F'' ⟨e1, e2⟩ => ⟨e1.trans (if_pos rfl).symm, e2⟩
      · rw [WV_new hDi hvv]; intro hw hV F'; exact opW_mono ((hrun hw).2 hV F') fun u F'' ⟨e1, e2⟩ => ⟨e1.trans (if_pos rfl).symm, e2⟩
    · obtain ⟨p, D, hp⟩ := h.pend k hk hL
      have hki : k ≠ i := fun e => hc.new (e ▸ hk)
      have hDi' : D i = false := by
        cases hD : D i with
        | false => rfl
        | true => exact absurd (hp.sub i hD) hc.new
      refine ⟨p, D, hp.get, hp.still, hp.plain, hp.apart, hp.uniq, hp.anc, hp.des, hp.self, fun k' hk' => List.mem_cons_of_mem _ (hp.sub k' hk'), ?_, ?_, ?_⟩
      · rw [WV_new hDi' hvv]; intro hw; simp only [hki, if_false]; exact hp.skip hw
      · rw [WV_new hDi' hvv]; intro hw F' hF; simp only [hki, if_false]; exact hp.run hw F' hF
      · rw [WV_new hDi' hvv]; intro hw hV F'; simp only [hki, if_false]; exact hp.pure hw hV F'
/-- What is ready, and not yet told, is told next. -/
theorem Inv.reach {P : Program} {T : Tab} (hT : TabOk P T) {ops : Array Oper} {K : Env → Heap → Prop} {env0 : Env} {m0 : Bool} {n : Nat} {w0 : World} {L : Nat → Bool} {a : Act} {w : World} {i : Nat} (hi : Ahead ops L i) : ∀ (rest : List Nat) {done : List Nat} {v : Nat → Value} {F : Heap}, Inv P T ops K env0 m0 n w0 L a w done rest v F → i ∈ rest →
    ∃ done' rest' v', Inv P T ops K env0 m0 n w0 L a w done' (i :: rest') v' F := by
  intro rest
  induction rest with
  | nil => intro done v F _ h; cases h
  | cons i0 rest ih =>
    intro done v F h hmem
    by_cases he : i0 = i
    · subst he; exact ⟨done, rest, v, h⟩
    · have hir : i ∈ rest := by
        rcases List.mem_cons.1 hmem with rfl | hm
        · exact absurd rfl he
        · exact hm
      obtain ⟨⟨o, hc⟩, hr⟩ := check_cons h.check
      have hst : isStill o.op = true := by
        cases hs : isStill o.op with
        | true => rfl
        | false =>
          have hb := check_moved hr hir i0 (by simp) o hc.get hs
          exact absurd (h.sub i0 (mask_sound hb h.lclosed hi)) hc.new
      rcases drawGo_cons hT hc.get h.told with ⟨hw, ht⟩ | ⟨hw, _, x, h1, h2, ht⟩ | ⟨_, hs, _⟩
      · exact ih (h.push hc hst undef (fun _ => rfl) (fun e => by rw [hw] at e; cases e) ht) hir
      · exact ih (h.push hc hst x (fun e => by rw [hw] at e; cases e) (fun _ => ⟨h1, h2⟩) ht) hir
      · rw [hst] at hs; cases hs

theorem ready_of {ops : Array Oper} {listed : Array Bool} {i : Nat} (h : i ∈ Region.ready .any ops listed) : i < ops.size ∧ listed.getD i true = false ∧ ∃ o, ops[i]? = some o ∧ ∀ e ∈ o.after, Region.binds .any e = true → listed.getD e.on false = true := by
  unfold Region.ready at h
  rw [List.mem_filter, List.mem_range] at h
  obtain ⟨h1, h2⟩ := h
  rw [Bool.and_eq_true] at h2
  refine ⟨h1, by simpa using h2.1, ?_⟩
  cases ho : ops[i]? with
  | none => rw [ho] at h2; simp at h2
  | some o =>
    rw [ho] at h2
    refine ⟨o, rfl, fun e he hb => ?_⟩
    have := h2.2
    simp only [Option.map_some, Option.getD_some, Array.all_eq_true_iff_forall_mem] at this
    have := this e he
    rw [hb] at this
    simpa using this
theorem not_ready {ops : Array Oper} {listed : Array Bool} (h : Region.ready .any ops listed = []) {i : Nat} {o : Oper} (ho : ops[i]? = some o) (hl : listed.getD i true = false) (ha : ∀ e ∈ o.after, Region.binds .any e = true → listed.getD e.on false = true) : False := by
  have hm : i ∈ Region.ready .any ops listed := by
    unfold Region.ready
    rw [List.mem_filter, List.mem_range]
    refine ⟨(Array.getElem?_eq_some_iff.1 ho).1, ?_⟩
    rw [hl, ho, Bool.not_false, Bool.true_and]
    simp only [Option.map_some, Option.getD_some, Array.all_eq_true_iff_forall_mem]
    intro e he
    cases hb : Region.binds .any e with
    | false => rfl
    | true => simpa using ha e he hb
  rw [h] at hm
  cases hm
/-- All that is ready is done: all is done. -/
theorem all_done {ops : Array Oper} {M : List Nat} {listed : Array Bool} (hsz : listed.size = ops.size) (h : Region.ready .any ops listed = []) : ∀ (l done : List Nat), checkGo ops M done l = true → (∀ i ∈ done, listed.getD i false = true) → ∀ i ∈ l, listed.getD i false = true := by
  intro l
  induction l with
  | nil => intro done _ _ i hi; cases hi
  | cons x l ih =>
    intro done hc hd i hi
    obtain ⟨⟨o, hk⟩, hr⟩ := check_cons hc
    have hx : listed.getD x false = true := by
      cases hl : listed.getD x false with
      | true => rfl
      | false =>
        refine (not_ready h hk.get ?_ (fun e he hb => hd _ (hk.ahead e he hb))).elim
        have hlt : x < listed.size := by rw [hsz]; exact (Array.getElem?_eq_some_iff.1 hk.get).1
        simpa [Array.getD_eq_getD_getElem?, hlt] using hl
    rcases List.mem_cons.1 hi with rfl | hi
    · exact hx
    · refine ih (x :: done) hr (fun k hk' => ?_) i hi
      rcases List.mem_cons.1 hk' with rfl | hk'
      · exact hx
      · exact hd k hk'
theorem count_set {listed : Array Bool} {n i : Nat} (hi : i < n) (h0 : listed.getD i false = false) (hsz : listed.size = n) :
    ((List.range n).filter fun k => !(listed.setIfInBounds i true).getD k false).length < ((List.range n).filter fun k => !listed.getD k false).length := by
  have key : ∀ l : List Nat, i ∈ l → (l.filter fun k => !(listed.setIfInBounds i true).getD k false).length < (l.filter fun k => !listed.getD k false).length := by
    have le : ∀ l : List Nat, (l.filter fun k => !(listed.setIfInBounds i true).getD k false).length ≤ (l.filter fun k => !listed.getD k false).length := by
      intro l
      induction l with
      | nil => exact Nat.le_refl _
      | cons x l ih =>
        by_cases hx : x = i
        · subst hx
          have h1 : (listed.setIfInBounds x true).getD x false = true := by simp [Array.getD_eq_getD_getElem?, hsz, hi]
          rw [List.filter_cons, List.filter_cons, h1, h0]
          simp only [Bool.not_true, Bool.not_false, Bool.false_eq_true, if_false, if_true, List.length_cons]
          omega
        · have h1 : (listed.setIfInBounds i true).getD x false = listed.getD x false := by simp [Array.getD_eq_getD_getElem?, Ne.symm hx]
          rw [List.filter_cons, List.filter_cons, h1]
          split
          · simp only [List.length_cons]; omega
          · exact ih
    intro l
    induction l with
    | nil => intro h; cases h
    | cons x l ih =>
      intro hm
      by_cases hx : x = i
      · subst hx
        have h1 : (listed.setIfInBounds x true).getD x false = true := by simp [Array.getD_eq_getD_getElem?, hsz, hi]
        rw [List.filter_cons, List.filter_cons, h1, h0]
        simp only [Bool.not_true, Bool.not_false, Bool.false_eq_true, if_false, if_true, List.length_cons]
        have := le l
        omega
      · have hl : i ∈ l := by
          rcases List.mem_cons.1 hm with rfl | hm
          · exact absurd rfl hx
          · exact hm
        have h1 : (listed.setIfInBounds i true).getD x false = listed.getD x false := by simp [Array.getD_eq_getD_getElem?, Ne.symm hx]
        rw [List.filter_cons, List.filter_cons, h1]
        split
        · simp only [List.length_cons]; have := ih hl; omega
        · exact ih hl
  exact key _ (by simpa using hi)

/-- What is told and pending is done. -/
theorem Inv.exec {P : Program} {T : Tab} {ops : Array Oper} {K : Env → Heap → Prop} {env0 : Env} {m0 : Bool} {n : Nat} {w0 : World} {L L' : Nat → Bool} {a : Act} {w w' : World} {done rest : List Nat} {v : Nat → Value} {F : Heap} {i : Nat} {o : Oper} {D : Nat → Bool} (h : Inv P T ops K env0 m0 n w0 L a w done rest v F)
    (hi : i ∈ done) (hp : Pend P ops env0 done v F i o D) (ha : Ahead ops L i) (hd : dstOk n o = true) (hL : ∀ k, k ≠ i → L' k = L k) (hLi : L' i = true) (hw : Has F w') (hrw : Rest w w') : Inv P T ops K env0 m0 n w0 L' (a.put o.dst (v i)) w' done rest v F := by
  have hag := h.ag.put hd (v i)
  have hr := h.rst.trans hrw
  have hh := h.held.mono hrw
  have hL1 : ∀ k, L k = true → L' k = true := fun k hk => by
    by_cases e : k = i
    · rw [e]; exact hLi
    · rw [hL k e]; exact hk
  have hL2 : ∀ k, L' k = true → k = i ∨ L k = true := fun k hk => by
    by_cases e : k = i
    · exact .inl e
    · rw [hL k e] at hk; exact .inr hk
  refine ⟨h.check, h.full, h.got, h.closed, fun k hk => ?_, fun k p hp' hk e he hb => ?_, hag.size, by rw [put_defers]; exact hh, fun t => ?_, h.told, hw, hr, fun k hk hLk => ?_⟩
  · rcases hL2 k hk with rfl | hk
    · exact hi
    · exact h.sub k hk
  · rcases hL2 k hk with rfl | hk
    · exact hL1 _ (ha p hp' e he hb)
    · exact hL1 _ (h.lclosed k p hp' hk e he hb)
  · rw [hag.tmp t, WV_set (v' := v) hp.get hp.uniq hL hLi (fun _ _ => rfl)]
  · refine h.pend k hk ?_
    cases e : L k with
    | false => rfl
    | true => rw [hL1 k e] at hLk; cases hLk
theorem Inv.move {P : Program} {T : Tab} {ops : Array Oper} {K : Env → Heap → Prop} {env0 : Env} {m0 : Bool} {n : Nat} {w0 : World} {L L' : Nat → Bool} {a : Act} {w w' : World} {done rest : List Nat} {v : Nat → Value} {F F' : Heap} {i : Nat} {o : Oper} (h : Inv P T ops K env0 m0 n w0 L a w done (i :: rest) v F)
    (hc : Chk ops (maskGo ops.toList []) done i o) (ha : Ahead ops L i) (hd : dstOk n o = true) (hL : ∀ k, k ≠ i → L' k = L k) (hLi : L' i = true) (x : Value) (hw : Has F' w') (hrw : Rest w w')
    (ht : drawGo P T ops (maskGo ops.toList []) K (i :: done) rest ((WV ops env0 (fun k => done.contains k) v).set o.dst x) F')
    (hkeep : (∀ k ∈ done, L k = false → ∀ p, ops[k]? = some p → isStill p.op = true → isVal p.op = true) ∨ Ext F F') :
    Inv P T ops K env0 m0 n w0 L' (a.put o.dst x) w' (i :: done) rest (fun k => if k = i then x else v k) F' := by
  have hag := h.ag.put hd x
  have hr := h.rst.trans hrw
  have hh := h.held.mono hrw
  have hL0 : L i = false := by
    cases e : L i with
    | false => rfl
    | true => exact absurd (h.sub i e) hc.new
  have hvv : ∀ k, k ≠ i → (fun k => if k = i then x else v k) k = v k := fun k hk => by simp [hk]
  have huniq : ∀ k p t, ops[k]? = some p → k ≠ i → p.dst = some t → ∀ d, o.dst = some d → d ≠ t := fun k p t hp hk ht => (hc.apart k p t hp hk ht).2
  have hL1 : ∀ k, L k = true → L' k = true := fun k hk => by
    by_cases e : k = i
    · rw [e]; exact hLi
    · rw [hL k e]; exact hk
  have hL2 : ∀ k, L' k = true → k = i ∨ L k = true := fun k hk => by
    by_cases e : k = i
    · exact .inl e
    · rw [hL k e] at hk; exact .inr hk
  refine ⟨(check_cons h.check).2, fun k hk => ?_, fun k hk => ?_, fun k p hp hk e he hb => ?_, fun k hk => ?_, fun k p hp' hk e he hb => ?_, hag.size, by rw [put_defers]; exact hh, fun t => ?_, ?_, hw, hr, fun k hk hLk => ?_⟩
  · rcases h.full k hk with h1 | h1
    · exact .inl (List.mem_cons_of_mem _ h1)
    · rcases List.mem_cons.1 h1 with rfl | h1
      · exact .inl (by simp)
      · exact .inr h1
  · rcases List.mem_cons.1 hk with rfl | hk
    · exact ⟨o, hc.get⟩
    · exact h.got k hk
  · have hk : k ∈ i :: done := by simpa using hk
    have : e.on ∈ i :: done := by
      rcases List.mem_cons.1 hk with rfl | hk
      · rw [hc.get] at hp; obtain rfl := Option.some.inj hp
        exact List.mem_cons_of_mem _ (hc.ahead e he hb)
      · have := h.closed k p hp (by simpa using hk) e he hb
        exact List.mem_cons_of_mem _ (by simpa using this)
    simpa using this
  · rcases hL2 k hk with rfl | hk
    · simp
    · exact List.mem_cons_of_mem _ (h.sub k hk)
  · rcases hL2 k hk with rfl | hk
    · exact hL1 _ (ha p hp' e he hb)
    · exact hL1 _ (h.lclosed k p hp' hk e he hb)
  · have := WV_set (v' := fun k => if k = i then x else v k) hc.get huniq (env0 := env0) (S := L) (S' := L') (v := v) hL hLi hvv
    simp only [if_true] at this
    rw [hag.tmp t, this]
  · have := WV_set (v' := fun k => if k = i then x else v k) hc.get huniq (env0 := env0) (S := fun k => done.contains k) (S' := fun k => (i :: done).contains k) (v := v) (fun k hk => by simp [hk]) (by simp) hvv
    simp only [if_true] at this
    rw [← this]
    exact ht
  · have hki : k ≠ i := by rintro rfl; rw [hLi] at hLk; cases hLk
    have hk : k ∈ done := by
      rcases List.mem_cons.1 hk with rfl | hk
      · exact absurd rfl hki
      · exact hk
    rw [hL k hki] at hLk
    obtain ⟨p, D, hp⟩ := h.pend k hk hLk
    have hDi' : D i = false := by
      cases hD : D i with
      | false => rfl
      | true => exact absurd (hp.sub i hD) hc.new
    refine ⟨p, D, hp.get, hp.still, hp.plain, hp.apart, hp.uniq, hp.anc, hp.des, hp.self, fun k' hk' => List.mem_cons_of_mem _ (hp.sub k' hk'), ?_, ?_, ?_⟩
    · rw [WV_new hDi' hvv]; intro hw; simp only [hki, if_false]; exact hp.skip hw
    · rw [WV_new hDi' hvv]
      intro hw G hG
      simp only [hki, if_false]
      rcases hkeep with hv | hF
      · exact hp.pure hw (hv k hk hLk p hp.get hp.still) G
      · exact hp.run hw G (hF.trans hG)
    · rw [WV_new hDi' hvv]; intro hw hV F'; simp only [hki, if_false]; exact hp.pure hw hV F'
theorem any_of_inv {P : Program} {T : Tab} (hT : TabOk P T) {ops : Array Oper} {σ : List Nat} (hσ : drawOk ops σ = true) {K : Env → Heap → Prop} {Q : Exit → Env → Heap → Prop} (hQ : ∀ env F, K env F → Q .normal env F) {env0 : Env} {m0 : Bool} {n : Nat} {w0 : World} (hd : ∀ o ∈ ops.toList, dstOk n o = true) :
    ∀ (fuel : Nat) (listed : Array Bool) (a : Act) (w : World) (done rest : List Nat) (v : Nat → Value) (F : Heap), Inv P T ops K env0 m0 n w0 (fun i => listed.getD i false) a w done rest v F → listed.size = ops.size →
      ((List.range ops.size).filter fun k => !listed.getD k false).length ≤ fuel → wpAny P .any ops (up m0 n w0 Q) fuel listed a w := by
  unfold drawOk at hσ
  rw [Bool.and_eq_true] at hσ
  obtain ⟨hchk, hall⟩ := hσ
  have hall : ∀ i, i < ops.size → i ∈ σ := fun i hi => by
    have := List.all_eq_true.1 hall i (by simpa using hi)
    simpa using this
  have fin : ∀ (listed : Array Bool) (a : Act) (w : World) (done rest : List Nat) (v : Nat → Value) (F : Heap), Inv P T ops K env0 m0 n w0 (fun i => listed.getD i false) a w done rest v F → listed.size = ops.size → Region.ready .any ops listed = [] → up m0 n w0 Q .normal a w := by
    intro listed a w done rest v F h hsz hr
    have hl : ∀ i, i < ops.size → listed.getD i false = true := fun i hi => all_done hsz hr σ [] hchk (fun _ h => by cases h) i (hall i hi)
    have hrest : rest = [] := by
      cases rest with
      | nil => rfl
      | cons x rest =>
        obtain ⟨⟨o, hc⟩, _⟩ := check_cons h.check
        exact absurd (h.sub x (hl x (Array.getElem?_eq_some_iff.1 hc.get).1)) hc.new
    subst hrest
    have ht := h.told
    change K _ _ at ht
    refine ⟨_, F, h.ag, h.held, h.has, h.rst, hQ _ _ ?_⟩
    have : WV ops env0 (fun i => listed.getD i false) v = WV ops env0 (fun k => done.contains k) v := by
      funext t
      refine WV_congr fun k hk => ⟨?_, fun _ => rfl⟩
      obtain ⟨_, _, _, hlt⟩ := writer_some hk
      have h1 := hl k hlt
      have h2 := h.sub k h1
      show listed.getD k false = done.contains k
      rw [h1]
      exact (by simpa using h2 : done.contains k = true).symm
    rw [this]
    exact ht
  intro fuel
  induction fuel with
  | zero =>
    intro listed a w done rest v F h hsz hc
    have hl : ∀ i, i < ops.size → listed.getD i false = true := fun i hi => by
      cases e : listed.getD i false with
      | true => rfl
      | false =>
        have : i ∈ (List.range ops.size).filter fun k => !listed.getD k false := by rw [List.mem_filter]; exact ⟨by simpa using hi, by rw [e]; rfl⟩
        rw [List.eq_nil_of_length_eq_zero (Nat.le_zero.1 hc)] at this
        cases this
    have hr : Region.ready .any ops listed = [] := by
      cases hr : Region.ready .any ops listed with
      | nil => rfl
      | cons x l =>
        obtain ⟨h1, h2, _⟩ := ready_of (by rw [hr]; simp : x ∈ Region.ready .any ops listed)
        have h3 := hl x h1
        rw [Array.getD_eq_getD_getElem?] at h2 h3
        rw [Array.getElem?_eq_getElem (by omega)] at h2 h3
        simp only [Option.getD_some] at h2 h3
        rw [h2] at h3; cases h3
    exact ⟨hr, fin listed a w done rest v F h hsz hr⟩
  | succ fuel ih =>
    intro listed a w done rest v F h hsz hcount
    refine ⟨fun hr => fin listed a w done rest v F h hsz hr, fun i hi => ?_⟩
    obtain ⟨hlt, hl, o, ho, hah⟩ := ready_of hi
    have hLi : listed.getD i false = false := by
      rw [Array.getD_eq_getD_getElem?, Array.getElem?_eq_getElem (by omega)] at hl ⊢
      exact hl
    have hahead : Ahead ops (fun k => listed.getD k false) i := fun p hp e he hb => by rw [ho] at hp; obtain rfl := Option.some.inj hp; exact hah e he hb
    have hdo : dstOk n o = true := hd o (List.mem_of_getElem? (by simpa using ho))
    have hL1 : ∀ k, k ≠ i → (listed.setIfInBounds i true).getD k false = listed.getD k false := fun k hk => by simp [Array.getD_eq_getD_getElem?, Ne.symm hk]
    have hL2 : (listed.setIfInBounds i true).getD i false = true := by simp [Array.getD_eq_getD_getElem?, hsz, hlt]
    have hcnt : ((List.range ops.size).filter fun k => !(listed.setIfInBounds i true).getD k false).length ≤ fuel := by
      have := count_set hlt hLi hsz
      omega
    -- an operation that is told: it is done
    have old : ∀ (done rest : List Nat) (v : Nat → Value) (F : Heap), Inv P T ops K env0 m0 n w0 (fun i => listed.getD i false) a w done rest v F → i ∈ done → wpOp P ops (up m0 n w0 Q) i (wpAny P .any ops (up m0 n w0 Q) fuel (listed.setIfInBounds i true)) a w := by
      intro done rest v F h hid
      obtain ⟨o', D, hp⟩ := h.pend i hid hLi
      have : o' = o := by have := hp.get; rw [ho] at this; exact (Option.some.inj this).symm
      subst this
      have hagr : ∀ t ∈ o'.looksAt ops, WV ops env0 (fun k => listed.getD k false) v t = WV ops env0 D v t := fun t ht => by
        refine agree hp.apart (fun k hk => ⟨mask_sound hk h.lclosed hahead, hp.anc k hk⟩) (fun k hk => ⟨?_, ?_⟩) ⟨hLi, hp.self⟩ ht
        · cases e : listed.getD k false with
          | false => rfl
          | true =>
            have := mask_sound hk h.lclosed (fun p hp' e' he hb => h.lclosed k p hp' e e' he hb)
            rw [hLi] at this; cases this
        · cases e : D k with
          | false => rfl
          | true => have := hp.des k e; rw [hk] at this; cases this
      unfold wpOp
      rw [ho]
      dsimp only
      rw [wanted_of h.ag, wantedE_agree hagr]
      cases hw : wantedE ops (WV ops env0 D v) o' with
      | false =>
        rw [if_neg (by decide), ← hp.skip hw]
        exact ih _ _ _ done rest v F (h.exec hid hp hahead hdo hL1 hL2 h.has (Rest.refl _)) (by simpa using hsz) hcnt
      | true =>
        rw [if_pos rfl]
        have hrun := (opW_congr hp.plain (ev_agree hagr)).2 (hp.run hw F (Ext.refl F))
        refine .inl (opW_sound hrun h.ag h.has fun u F' w' hu hF' hr' => ?_)
        obtain ⟨rfl, rfl⟩ := hu
        exact ih _ _ _ done rest v F' (h.exec hid hp hahead hdo hL1 hL2 hF' hr') (by simpa using hsz) hcnt
    rcases h.full i hlt with hid | hir
    · exact old done rest v F h hid
    · obtain ⟨done, rest, v, h⟩ := h.reach hT hahead rest hir
      obtain ⟨⟨o', hc⟩, hr⟩ := check_cons h.check
      have : o' = o := by have := hc.get; rw [ho] at this; exact (Option.some.inj this).symm
      subst this
      have hagr : ∀ t ∈ o'.looksAt ops, WV ops env0 (fun k => listed.getD k false) v t = WV ops env0 (fun k => done.contains k) v t := fun t ht => by
        refine agree (fun k p t hp hk hpt ht => (hc.apart k p t hp hk hpt).1 ht) (fun k hk => ⟨mask_sound hk h.lclosed hahead, ?_⟩) (fun k hk => ⟨?_, ?_⟩) ⟨hLi, by simpa using hc.new⟩ ht
        · exact mask_sound hk h.closed (fun p hp e he hb => by rw [hc.get] at hp; obtain rfl := Option.some.inj hp; simpa using hc.ahead e he hb)
        · cases e : listed.getD k false with
          | false => rfl
          | true =>
            have := mask_sound hk h.lclosed (fun p hp' e' he hb => h.lclosed k p hp' e e' he hb)
            rw [hLi] at this; cases this
        · cases e : done.contains k with
          | false => rfl
          | true =>
            have : done.contains i = true := mask_sound hk h.closed (fun p hp' e' he hb => h.closed k p hp' e e' he hb)
            exact absurd (by simpa using this) hc.new
      rcases drawGo_cons hT hc.get h.told with ⟨hw, ht⟩ | ⟨hw, hst, x, h1, h2, ht⟩ | ⟨hw, hst, hrun⟩
      · unfold wpOp
        rw [ho]
        dsimp only
        rw [wanted_of h.ag, wantedE_agree hagr, hw, if_neg (by decide)]
        exact ih _ _ _ _ _ _ F (h.move hc hahead hdo hL1 hL2 undef h.has (Rest.refl _) ht (.inr (Ext.refl F))) (by simpa using hsz) hcnt
      · exact old _ _ _ _ (h.push hc hst x (fun e => by rw [hw] at e; cases e) (fun _ => ⟨h1, h2⟩) ht) (by simp)
      · unfold wpOp
        rw [ho]
        dsimp only
        rw [wanted_of h.ag, wantedE_agree hagr, hw, if_pos rfl]
        have hrun := (opW_congr hc.plain (ev_agree hagr)).2 hrun
        refine .inl (opW_sound hrun h.ag h.has fun x F' w' hu hF' hr' => ?_)
        obtain ⟨hk, ht⟩ := hu
        refine ih _ _ _ _ _ _ F' (h.move hc hahead hdo hL1 hL2 x hF' hr' ht ?_) (by simpa using hsz) hcnt
        rcases hk with hs | hF
        · refine .inl fun k hk hLk p hp hst' => ?_
          have := List.all_eq_true.1 hs k hk
          rw [hp] at this
          simp only [Bool.or_eq_true] at this
          rcases this with (g | g) | g
          · exact g
          · rw [hst'] at g; cases g
          · have := mask_sound g h.lclosed hahead
            rw [hLk] at this; cases this
        · exact .inr hF
/-- A region that draws its order, told in one order. -/
theorem draw_walk {P : Program} {T : Tab} (hT : TabOk P T) (hm : P.follows .mixedOrders = true) {ops : Array Oper} (σ : List Nat) (hok : drawOk ops σ = true) {K : Env → Heap → Prop} {env : Env} {F : Heap}
    (h : drawGo P T ops (maskGo ops.toList []) K [] σ env F) : DrawK P T ops K env F := by
  refine ⟨fun m0 n a w w0 id Q hd hQ ha hh hw hr => ?_⟩
  refine wp_region_any hm ?_
  have hall := hok
  unfold drawOk at hall
  rw [Bool.and_eq_true] at hall
  have h0 : ∀ k, (Array.replicate ops.size false).getD k false = false := fun k => by
    rw [Array.getD_eq_getD_getElem?, Array.getElem?_replicate]
    split <;> rfl
  have hWV : ∀ S : Nat → Bool, (∀ k, S k = false) → WV ops env S (fun _ => undef) = env := fun S hS => by
    funext t
    unfold WV
    cases writer ops t with
    | none => rfl
    | some k => dsimp only; rw [hS k]; rfl
  refine any_of_inv hT hok hQ hd ops.size _ a _ [] σ (fun _ => undef) F (env0 := env) ⟨hall.1, fun i hi => .inr ?_, fun _ h => by (cases h), fun k o _ hk => by simp at hk, fun i hi => ?_, fun k o _ hk => ?_, ha.size, hh.mono ⟨rfl, rfl, rfl, Nat.le_refl _, fun _ h => h⟩, fun t => ?_, ?_, hw.of_heap rfl, hr.trans ⟨rfl, rfl, rfl, Nat.le_refl _, fun _ h => h⟩, fun _ h => by (cases h)⟩ (by simp) ?_
  · have := List.all_eq_true.1 hall.2 i (by simpa using hi)
    simpa using this
  · rw [h0 i] at hi; cases hi
  · rw [h0 k] at hk; cases hk
  · rw [ha.tmp t, hWV _ h0]
  · rw [hWV _ (fun k => by simp)]; exact h
  · exact Nat.le_trans (List.length_filter_le _ _) (by simp)
end Go.Al
/- The logic of a known part of memory, 8: rows: what a slice reads as; rows of a call's own; append, copy, make. It holds for every program. -/
namespace Go.Al
open Go

theorem add_plain (b o i : Nat) : (⟨b, o, none⟩ : Addr).add i = ⟨b, o + i, none⟩ := by
  unfold Addr.add
  split
  · next h => subst h; rfl
  · rfl
theorem add_add (a : Addr) (i j : Nat) : (a.add i).add j = a.add (i + j) := by
  unfold Addr.add
  by_cases hi : i = 0
  · subst hi; simp
  · by_cases hj : j = 0
    · subst hj; simp [hi]
    · simp [hi, hj, Nat.add_assoc]
theorem Heap.cell_at {F : Heap} {b : Nat} {c : Array Value} {e : TypeId} {fz : Nat × Nat} (hb : F b = some (.cells c e fz)) (i : Nat) : F.cell? ⟨b, i, none⟩ = c[i]? := by
  unfold Heap.cell?
  rw [hb]
  rfl
/-- The cells from A on read as vs. -/
def RowAt (F : Heap) (A : Option Addr) (vs : List Value) : Prop := ∀ j v, vs[j]? = some v → ∃ a, A = some a ∧ F.cell? (a.add j) = some v
theorem RowAt.mono {F G : Heap} {A : Option Addr} {vs : List Value} (h : RowAt F A vs) (hF : Ext F G) : RowAt G A vs := fun j v hj => by
  obtain ⟨a, h1, h2⟩ := h j v hj
  exact ⟨a, h1, hF.cell h2⟩
theorem RowAt.nil (F : Heap) (A : Option Addr) : RowAt F A [] := fun j v hj => by simp at hj
theorem RowAt.cell {F : Heap} {a : Addr} {vs : List Value} (h : RowAt F (some a) vs) {j : Nat} {v : Value} (hj : vs[j]? = some v) : F.cell? (a.add j) = some v := by
  obtain ⟨b, h1, h2⟩ := h j v hj
  cases h1
  exact h2
theorem RowAt.drop {F : Heap} {a : Addr} {vs : List Value} (h : RowAt F (some a) vs) (k : Nat) : RowAt F (some (a.add k)) (vs.drop k) := fun j v hj => by
  rw [List.getElem?_drop] at hj
  exact ⟨_, rfl, by rw [add_add]; exact h.cell hj⟩
theorem RowAt.take {F : Heap} {A : Option Addr} {vs : List Value} (h : RowAt F A vs) (k : Nat) : RowAt F A (vs.take k) := fun j v hj => by
  rw [List.getElem?_take] at hj
  split at hj
  · exact h j v hj
  · cases hj
theorem RowAt.some {F : Heap} {A : Option Addr} {vs : List Value} (h : RowAt F A vs) (h0 : 0 < vs.length) : ∃ a, A = some a := by
  obtain ⟨a, h1, _⟩ := h 0 vs[0] (by simp [h0])
  exact ⟨a, h1⟩

def blk : Value → Option Nat
  | .slice (some a) _ _ => some a.block
  | _ => none
/-- A block whose cells may be written. -/
def Live (F : Heap) (b : Nat) (cs : Array Value) (e : TypeId) : Prop := ∃ fz, F b = some (.cells cs e fz) ∧ (fz.2 ≤ fz.1 ∨ cs.size ≤ fz.1)
theorem Live.put (F : Heap) (b : Nat) (cs : Array Value) (e : TypeId) : Live (F.put b (.cells cs e)) b cs e := ⟨_, Heap.put_same _ _ _, .inl (Nat.le_refl _)⟩
/-- s is a row of the call's own: n elements of z cells each, of type e, that hold vs; there may be room behind them. -/
def Own (F : Heap) (s : Value) (e z n : Nat) (vs : List Value) : Prop :=
  vs.length = n * z ∧ ((s = .slice none 0 0 ∧ n = 0) ∨ ∃ b c cs, s = .slice (some ⟨b, 0, none⟩) n c ∧ Live F b cs e ∧ cs.size = c * z ∧ n ≤ c ∧ cs.toList.take (n * z) = vs)
/-- .. and it wasn't there in F0. -/
structure Mine (F0 F : Heap) (s : Value) (e z n : Nat) (vs : List Value) : Prop where
  own : Own F s e z n vs
  fresh : ∀ b, blk s = some b → F0 b = none
  ext : Ext F0 F
theorem Mine.mono {F0 F G : Heap} {s : Value} {e z n : Nat} {vs : List Value} (h : Mine F0 F s e z n vs) (hF : Ext F G) : Mine F0 G s e z n vs := by
  refine ⟨⟨h.own.1, ?_⟩, h.fresh, h.ext.trans hF⟩
  rcases h.own.2 with h1 | ⟨b, c, cs, h1, h2, h3⟩
  · exact .inl h1
  · exact .inr ⟨b, c, cs, h1, ⟨h2.choose, hF _ _ h2.choose_spec.1, h2.choose_spec.2⟩, h3⟩
theorem Mine.nil (F0 F : Heap) (e z : Nat) (h : Ext F0 F) : Mine F0 F (.slice none 0 0) e z 0 [] := ⟨⟨by simp, .inl ⟨rfl, rfl⟩⟩, fun b hb => (by cases hb), h⟩
/-- What a row of the call's own reads as. -/
theorem Own.row {F : Heap} {s : Value} {e z n : Nat} {vs : List Value} (h : Own F s e z n vs) : ∃ A c, s = .slice A n c ∧ n ≤ c ∧ RowAt F A vs := by
  obtain ⟨hl, h⟩ := h
  rcases h with ⟨rfl, rfl⟩ | ⟨b, c, cs, rfl, ⟨fz, hb, _⟩, hc, hn, ht⟩
  · have : vs = [] := List.eq_nil_of_length_eq_zero (by simpa using hl)
    subst this
    exact ⟨_, _, rfl, Nat.le_refl _, RowAt.nil _ _⟩
  · refine ⟨_, _, rfl, hn, fun j v hj => ⟨_, rfl, ?_⟩⟩
    rw [add_plain, Heap.cell_at hb, Nat.zero_add]
    have hlt : j < n * z := by rw [← hl]; exact (List.getElem?_eq_some_iff.1 hj).1
    rw [← ht, List.getElem?_take, if_pos hlt] at hj
    simpa using hj
/-- F but for one block. -/
def Keeps (F F' : Heap) (b : Option Nat) : Prop := ∀ c o, F c = some o → b ≠ some c → F' c = some o
theorem Keeps.ext {F0 F F' : Heap} {b : Option Nat} (h : Keeps F F' b) (h0 : Ext F0 F) (hb : ∀ k, b = some k → F0 k = none) : Ext F0 F' := fun c o hc => by
  refine h c o (h0 c o hc) fun e => ?_
  rw [hb c e] at hc; cases hc
theorem Keeps.put (F : Heap) (b : Nat) (o : Obj) : Keeps F (F.put b o) (some b) := fun c u hc hne => by
  rw [Heap.put_other F o (fun e => hne (by rw [e]))]; exact hc
theorem Ext.keeps {F F' : Heap} (h : Ext F F') (b : Option Nat) : Keeps F F' b := fun c o hc _ => h c o hc
theorem Ext.new {F : Heap} {b : Nat} (hb : F b = none) (o : Obj) : Ext F (F.put b o) := (Ext.refl F).put hb o

theorem putL_eq : ∀ (vs cs : List Value) (off : Nat), off + vs.length ≤ cs.length → putL cs off vs = cs.take off ++ (vs ++ cs.drop (off + vs.length)) := by
  intro vs
  induction vs with
  | nil => intro cs off h; simp [putL]
  | cons v vs ih =>
    intro cs off h
    rw [List.length_cons] at h
    rw [putL, ih _ _ (by rw [List.length_set]; omega)]
    have h1 : (cs.set off v).take (off + 1) = cs.take off ++ [v] := by
      rw [List.take_set, List.set_eq_take_append_cons_drop]
      rw [if_pos (by rw [List.length_take]; omega)]
      simp only [List.take_take, List.drop_take]
      rw [Nat.min_eq_left (by omega)]
      simp
    have h2 : (cs.set off v).drop (off + 1 + vs.length) = cs.drop (off + (vs.length + 1)) := by
      rw [List.drop_set, if_pos (by omega), show off + 1 + vs.length = off + (vs.length + 1) by omega]
    rw [h1, h2]
    simp
theorem wk_loadCells_at {P : Program} {F : Heap} {a : Addr} : ∀ (vs : List Value) (i : Nat) (acc : Array Value) (K : Array Value → Heap → Prop), (∀ j v, vs[j]? = some v → F.cell? (a.add (i + j)) = some v) → K (acc ++ vs.toArray) F → wk P (loadCellsFrom a i vs.length acc) F K := by
  intro vs
  induction vs with
  | nil => intro i acc K _ h; simpa [loadCellsFrom, wk_pure] using h
  | cons v vs ih =>
    intro i acc K hc h
    rw [List.length_cons, loadCellsFrom, wk_bind]
    refine wk_load (by have := hc 0 v rfl; simpa using this) _ ?_
    refine ih (i + 1) _ K (fun j u hj => by have := hc (j + 1) u (by simpa using hj); rwa [show i + (j + 1) = i + 1 + j by omega] at this) ?_
    have : acc.push v ++ vs.toArray = acc ++ (v :: vs).toArray := by apply Array.ext'; simp
    rw [this]; exact h
theorem wk_firstCells {P : Program} {F : Heap} {A : Option Addr} {z m n c : Nat} {vs : List Value} (h : RowAt F A vs) (hl : vs.length = m * z) (K : Array Value → Heap → Prop) (hk : K vs.toArray F) : wk P (Builtin.firstCells z m (.slice A n c)) F K := by
  cases A with
  | none =>
    have : vs = [] := by
      cases vs with
      | nil => rfl
      | cons v vs => obtain ⟨a, h1, _⟩ := h 0 v rfl; cases h1
    subst this
    exact hk
  | some a =>
    show wk P (loadCells a (m * z)) F K
    unfold loadCells
    rw [← hl]
    exact wk_loadCells_at vs 0 #[] K (fun j v hj => by simpa using h.cell hj) (by simpa using hk)
theorem wk_choose {P : Program} {F : Heap} {q : Question} {K : Nat → Heap → Prop} (h : ∀ n, (q.forced = true → n = 0) → (q.forced = false → ∃ t, n = q.cut t) → K n F) : wk P (choose q) F K := fun n h1 h2 => h n h1 h2

/-- What an append takes: the cells of its second operand. -/
def Src (F : Heap) (z m : Nat) (y : Value) (ys : List Value) : Prop :=
  ys.length = m * z ∧ ((∃ A c, y = .slice A m c ∧ RowAt F A ys) ∨ (∃ s, y = .string s ∧ z = 1 ∧ m = s.size ∧ ys = s.data.toList.map fun b => .int .u8 b.toNat))
theorem Src.len {P : Program} {F : Heap} {z m : Nat} {y : Value} {ys : List Value} (h : Src F z m y ys) (K : Nat → Heap → Prop) (hk : K m F) : wk P (Builtin.lenOf y) F K := by
  rcases h.2 with ⟨A, c, rfl, _⟩ | ⟨s, rfl, _, rfl, _⟩
  · exact hk
  · exact hk
theorem Src.cells {P : Program} {F : Heap} {z m : Nat} {y : Value} {ys : List Value} (h : Src F z m y ys) (K : Array Value → Heap → Prop) (hk : K ys.toArray F) : wk P (Builtin.firstCells z m y) F K := by
  rcases h.2 with ⟨A, c, rfl, hr⟩ | ⟨s, rfl, rfl, rfl, rfl⟩
  · exact wk_firstCells hr h.1 K hk
  · show K ((s.extract 0 s.size).data.map fun b => .int .u8 b.toNat) F
    have : ((s.extract 0 s.size).data.map fun b : UInt8 => Value.int .u8 b.toNat) = (s.data.toList.map fun b : UInt8 => Value.int .u8 b.toNat).toArray := by
      apply Array.ext'
      simp
    rw [this]; exact hk
theorem zeroCells_size (z : Array Value) (n : Nat) : (Builtin.zeroCells z n).size = n * z.size := by simp [Builtin.zeroCells]
theorem wk_append {P : Program} {T : Tab} (hT : TabOk P T) {F : Heap} {t u ty : TypeId} {e : TypeId} {tsz tb : Nat} {tz : Option Value} {d : TD} {s y : Value} {n m : Nat} {xs ys : List Value} {K : Value → Heap → Prop}
    (ht : T t = some ⟨tsz, tb, .slice e, tz⟩) (he : T e = some d) (hu : ∃ du, T u = some du ∧ ∀ k, du.desc ≠ .int k) (hz : ∃ zv, d.zero = some zv ∧ zv.cells.size = d.size) (hb0 : 0 < d.bytes)
    (hs : Own F s e d.size n xs) (hy : Src F d.size m y ys) (hone : ∀ v ∈ ys, v.oneCell' = true) (hlim : 2 * (n + m) * d.bytes ≤ 281474976710656)
    (hk : ∀ s' F', Own F' s' e d.size (n + m) (xs ++ ys) → Keeps F F' (blk s) → (∀ b, blk s' = some b → blk s = some b ∨ F b = none) → K s' F') : wk P (Builtin.append_ #[t, u] ty #[s, y]) F K := by
  obtain ⟨hut, _⟩ := hT _ _ ht
  obtain ⟨_, i, hi, hsz, hby, hze⟩ := hT _ _ he
  obtain ⟨du, hdu, hni⟩ := hu
  obtain ⟨huu, _⟩ := hT _ _ hdu
  obtain ⟨zv, hzv, hzs⟩ := hz
  obtain ⟨A, c, rfl, hnc, hrow⟩ := hs.row
  have hlxs : xs.length = n * d.size := hs.1
  unfold Builtin.append_
  simp only [List.getElem?_toArray, List.getElem?_cons_zero, List.getElem?_cons_succ]
  rw [wk_bind, wk_underlying hut]
  dsimp only
  rw [wk_bind, wk_sizeOf hi, hsz, wk_bind]
  rw [wk_underlying huu, wk_bind, wk_pure]
  clear huu hdu
  generalize du.desc = dd at hni ⊢
  cases dd <;> first | exact absurd rfl (hni _) | skip
  all_goals
    clear hni
    dsimp only
    simp only [Bool.false_eq_true, if_false]
    rw [wk_bind]
    refine hy.len _ ?_
    by_cases hfit : n + m ≤ c
    · rw [if_pos hfit, wk_bind]
      simp only [Bool.not_false, if_true]
      refine hy.cells _ ?_
      rcases hs.2 with ⟨hnil, h0⟩ | ⟨b, c', cs, heq, ⟨fz, hb, hfz⟩, hcs, hle, htake⟩
      · injection hnil with h1 h2 h3
        subst h1; subst h0; subst h3
        have hm : m = 0 := by omega
        subst hm
        have hys : ys = [] := List.eq_nil_of_length_eq_zero (by simpa using hy.1)
        subst hys
        have hxs : xs = [] := List.eq_nil_of_length_eq_zero (by simpa using hlxs)
        subst hxs
        exact hk _ _ hs (fun _ _ h _ => h) (fun b hb => .inl hb)
      · injection heq with h1 h2 h3
        subst h1; subst h3
        have hl : 0 + n * d.size + ys.length ≤ cs.size := by rw [hcs, hy.1, Nat.zero_add, ← Nat.add_mul]; exact Nat.mul_le_mul_right _ hfit
        have hadd : (⟨b, 0, none⟩ : Addr).add (n * d.size) = ⟨b, n * d.size, none⟩ := by rw [add_plain, Nat.zero_add]
        simp only [wk_bind, hadd]
        refine wk_storeCells (a := ⟨b, n * d.size, none⟩) (e := e) (fz := fz) rfl ys 0 F cs _ hb (by simpa using hl) (hfz.imp id fun h => by show n * d.size + 0 + ys.length ≤ fz.1; omega) hone ?_
        refine hk _ _ ⟨by rw [List.length_append, hlxs, hy.1, Nat.add_mul], .inr ⟨b, c, _, rfl, ⟨fz, Heap.put_same _ _ _, hfz.imp id fun h => by simpa [length_putL] using h⟩, ?_, hfit, ?_⟩⟩ (Keeps.put F b _) (fun b' hb' => .inl hb')
        · show (putL cs.toList (n * d.size + 0) ys).toArray.size = _
          simpa [length_putL] using hcs
        · show (putL cs.toList (n * d.size + 0) ys).toArray.toList.take _ = _
          have hl' : n * d.size + ys.length ≤ cs.toList.length := by simpa using hl
          rw [Nat.add_zero, List.toList_toArray, putL_eq _ _ _ hl', htake, ← List.append_assoc, Nat.add_mul, ← hlxs, ← hy.1, ← List.length_append, List.take_left']
          rfl
    · rw [if_neg hfit]
      have hcn : c < n + m := by omega
      have hcap := nextslicecap_le (need := n + m) (old := c) (by omega)
      rw [wk_bind, wk_typeInfo hi]
      rw [if_neg (by rw [hby]; simp; omega)]
      rw [wk_bind, wk_typeInfo hi]
      rw [if_neg (by rw [hby]; have := Nat.mul_le_mul_right d.bytes hcap; omega)]
      rw [wk_bind]
      refine wk_choose fun nc _ hch => ?_
      obtain ⟨tt, rfl⟩ := hch rfl
      have hge : n + m ≤ Question.cut (.appendCap (n + m) c e) tt := by show n + m ≤ n + m + _; omega
      generalize Question.cut (.appendCap (n + m) c e) tt = nc at hge
      rw [wk_bind, wk_typeInfo hi, wk_bind, wk_askRoom, wk_bind]
      refine wk_firstCells hrow hlxs _ ?_
      rw [wk_bind]
      simp only [Bool.not_false, if_true]
      refine hy.cells _ ?_
      rw [wk_bind, wk_zeroValue hi (hze.trans hzv)]
      simp only [newRow, wk_bind, wk_pure]
      refine run_new ⟨fun b hb => ?_⟩
      refine hk _ _ ⟨by rw [List.length_append, hlxs, hy.1, Nat.add_mul], .inr ⟨b, nc, _, rfl, Live.put _ _ _ _, ?_, hge, ?_⟩⟩ ((Ext.new hb _).keeps _) (fun b' hb' => .inr ?_)
      · simp only [Array.size_append, List.size_toArray, zeroCells_size, hzs, hlxs, hy.1]
        rw [← Nat.add_mul, ← Nat.add_mul]
        congr 1
        omega
      · rw [Nat.add_mul, ← hlxs, ← hy.1, ← List.length_append, Array.toList_append, Array.toList_append, List.toList_toArray, List.toList_toArray]
        exact List.take_left' rfl
      · obtain rfl : b = b' := Option.some.inj hb'
        exact hb

/-- An append, as the walk meets it. -/
theorem append_own {P : Program} {T : Tab} (hT : TabOk P T) {o : Oper} {ev : Operand → Value} {F : Heap} {t u : TypeId} {p q : Operand} (ho : o.op = .call ⟨.builtin .append, #[p, q], #[t, u]⟩) {e : TypeId} {tsz tb : Nat} {tz : Option Value} {d : TD} {s y : Value} {n m : Nat} {xs ys : List Value} {K : Value → Heap → Prop}
    (hp : ev p = s) (hq : ev q = y) (ht : T t = some ⟨tsz, tb, .slice e, tz⟩) (he : T e = some d) (hu : ∃ du, T u = some du ∧ ∀ k, du.desc ≠ .int k) (hz : ∃ zv, d.zero = some zv ∧ zv.cells.size = d.size) (hb0 : 0 < d.bytes)
    (hs : Own F s e d.size n xs) (hy : Src F d.size m y ys) (hone : ∀ v ∈ ys, v.oneCell' = true) (hlim : 2 * (n + m) * d.bytes ≤ 281474976710656)
    (hk : ∀ s' F', Own F' s' e d.size (n + m) (xs ++ ys) → Keeps F F' (blk s) → (∀ b, blk s' = some b → blk s = some b ∨ F b = none) → K s' F') : OpK P o ev F K := by
  refine ⟨opW_v (s := Builtin.append_ #[t, u] o.type #[s, y]) (by simp [execOp, ho, resolve, invoke, builtin, hp, hq]) ?_⟩
  exact wk_append hT ht he hu hz hb0 hs hy hone hlim hk
/-- .. onto a row that wasn't there in F0. -/
theorem append_mine {P : Program} {T : Tab} (hT : TabOk P T) {o : Oper} {ev : Operand → Value} {F0 F : Heap} {t u : TypeId} {p q : Operand} (ho : o.op = .call ⟨.builtin .append, #[p, q], #[t, u]⟩) {e : TypeId} {tsz tb : Nat} {tz : Option Value} {d : TD} {s y : Value} {n m : Nat} {xs ys : List Value} {K : Value → Heap → Prop}
    (hp : ev p = s) (hq : ev q = y) (ht : T t = some ⟨tsz, tb, .slice e, tz⟩) (he : T e = some d) (hu : ∃ du, T u = some du ∧ ∀ k, du.desc ≠ .int k) (hz : ∃ zv, d.zero = some zv ∧ zv.cells.size = d.size) (hb0 : 0 < d.bytes)
    (hs : Mine F0 F s e d.size n xs) (hy : Src F d.size m y ys) (hone : ∀ v ∈ ys, v.oneCell' = true) (hlim : 2 * (n + m) * d.bytes ≤ 281474976710656)
    (hk : ∀ s' F', Mine F0 F' s' e d.size (n + m) (xs ++ ys) → Keeps F F' (blk s) → K s' F') : OpK P o ev F K := by
  refine append_own hT ho hp hq ht he hu hz hb0 hs.own hy hone hlim fun s' F' h1 h2 h3 => hk s' F' ⟨h1, fun b hb => ?_, h2.ext hs.ext hs.fresh⟩ h2
  rcases h3 b hb with h | h
  · exact hs.fresh b h
  · cases e0 : F0 b with
    | none => rfl
    | some o => rw [hs.ext b o e0] at h; cases h
/-- An operation by what its run comes to. -/
theorem op_run {P : Program} {o : Oper} {ev : Operand → Value} {F F' : Heap} {s : Sem Value} {v : Value} {K : Value → Heap → Prop} (hs : execOp ev o = (do pure (.value (← s)))) (h : ∀ w, Has F w → ∃ w', s.run P w = .ok v w' ∧ Has F' w' ∧ Rest w w') (hk : K v F') : OpK P o ev F K := by
  refine ⟨fun w hw => ?_⟩
  obtain ⟨w', h1, h2, h3⟩ := h w hw
  refine ⟨.value v, w', F', ?_, h2, h3, hk⟩
  rw [hs]
  simp only [Sem.run_bind, h1, Result.andThen_ok, Sem.run_pure]

theorem load_step {F : Heap} {a : Addr} {K : Value → Prop} {v : Value} (h : F.cell? a = some v) (hk : K v) : LoadK F a K := ⟨⟨v, h, hk⟩⟩
theorem load_blk {F : Heap} {a : Addr} {K : Value → Prop} {v : Value} {c : Array Value} {e : TypeId} {fz : Nat × Nat} (hb : F a.block = some (.cells c e fz)) (hs : a.spot = none) (hv : c[a.off]? = some v) (hk : K v) : LoadK F a K := by
  refine ⟨⟨v, ?_, hk⟩⟩
  unfold Heap.cell?
  rw [hb]
  simp only [hs, Option.isSome_none, Bool.false_eq_true, if_false]
  exact hv
theorem Own.of_blk {F F' : Heap} {s : Value} {e z n : Nat} {vs : List Value} (h : Own F s e z n vs) (hk : ∀ k o, blk s = some k → F k = some o → F' k = some o) : Own F' s e z n vs := by
  refine ⟨h.1, ?_⟩
  rcases h.2 with h1 | ⟨b, c, cs, h1, h2, h3⟩
  · exact .inl h1
  · exact .inr ⟨b, c, cs, h1, ⟨h2.choose, hk b _ (by rw [h1]; rfl) h2.choose_spec.1, h2.choose_spec.2⟩, h3⟩
theorem new_step {F : Heap} {o' : Obj} {K : Nat → Heap → Prop} (o : Obj) (ho : o' = o) (hk : ∀ b, F b = none → K b (F.put b o)) : NewK F o' K := by
  subst ho
  exact ⟨hk⟩
theorem store_step {F : Heap} {a : Addr} {vs : List Value} {K : Value → Heap → Prop} {e : TypeId} {fz : Nat × Nat} (b off : Nat) (c c' : Array Value) (ha : a = ⟨b, off, none⟩) (hb : F b = some (.cells c e fz)) (hc : (putL c.toList off vs).toArray = c') (hl : Nat.ble (off + vs.length) c.size = true) (hz : thawed fz off vs.length) (h1 : ∀ v ∈ vs, v.oneCell' = true)
    (hk : K undef (F.put b (.cells c' e fz))) : StoreK F a vs K := by
  subst ha
  subst hc
  exact ⟨⟨c, e, fz, hb, rfl, Nat.le_of_ble_eq_true hl, hz, h1, hk⟩⟩
end Go.Al
/- The logic of a known part of memory, 9: what reads as data when a law is called. It holds for every program. -/
namespace Go.Al
open Go Go.RowKit

/-- All that is in memory. -/
def whole (W : World) : Heap := fun b => W.heap[b]?
theorem has_whole (W : World) : Has (whole W) W := fun _ _ h => h
theorem whole_cell {W : World} {a : Addr} {v : Value} (h : W.cell? a = some v) : (whole W).cell? a = some v := by
  unfold World.cell? at h
  unfold Heap.cell? whole
  split at h
  · next c e fz hb => rw [hb]; exact h
  · cases h
theorem below_whole {W W' : World} {F' : Heap} (h : Ext (whole W) F') (hF : Has F' W') (hr : Go.Al.Rest W W') : Below W.heap.size W W' := by
  refine ⟨hr.os, hr.tape, hr.output, hr.size, fun k hk => ?_⟩
  have hb : whole W k = some W.heap[k] := by unfold whole; simp [hk]
  rw [hF k _ (h k _ hb)]
  simp [hk]

abbrev Kind (α : Type) := Heap → α → List Value → Prop
def kInt (k : IntKind) : Kind Int := fun _ n cs => cs = [.int k n]
def kBool : Kind Bool := fun _ b cs => cs = [.bool b]
def kStr : Kind ByteArray := fun _ s cs => cs = [.string s]
/-- Elements of z cells each. -/
def Elems {α : Type} (F : Heap) (A : Option Addr) (z : Nat) (K : Kind α) (xs : List α) : Prop := ∀ j x, xs[j]? = some x → ∃ a c, A = some a ∧ c.length = z ∧ K F x c ∧ ∀ q u, c[q]? = some u → F.cell? (a.add (j * z + q)) = some u
def kSlice {α : Type} (z : Nat) (K : Kind α) : Kind (List α) := fun F xs cs => ∃ A c, cs = [.slice A xs.length c] ∧ xs.length ≤ c ∧ Elems F A z K xs
def kPair {α β : Type} (z : Nat) (K : Kind α) (L : Kind β) : Kind (α × β) := fun F p cs => ∃ c d, cs = c ++ d ∧ c.length = z ∧ K F p.1 c ∧ L F p.2 d

/-- What reads as data of type t is of kind K, and good. -/
structure Opens (P : Program) (t : TypeId) {α : Type} (K : Kind α) (G : α → Prop) : Prop where
  get : ∀ {H : Type} {enc : TypeId × Value → H} {W : World} {fuel : Nat} {cs : List Value} {x : DataW H × List MemPlace}, DataW.trod enc P W 0 (fun _ => true) true fuel t cs = some x → ∃ a : α, K (whole W) a cs ∧ G a
theorem Opens.trod {P : Program} {t : TypeId} {α : Type} {k : Kind α} {G : α → Prop} (o : Opens P t k G) {H : Type} {enc : TypeId × Value → H} {W : World} {v : Value} {d : DataW H} {ps : List MemPlace}
    (h : DataW.Trod enc P W 0 (fun _ => true) true t v d ps) : ∃ a : α, k (whole W) a v.cells.toList ∧ G a := by
  obtain ⟨fuel, hf⟩ := h
  exact o.get hf
theorem opens_int {P : Program} {t : TypeId} {ik : IntKind} (ht : P.underlying t = some (.int ik)) : Opens P t (kInt ik) (fun n => (Lit.int ik n).wf = true) :=
  ⟨fun hx => by obtain ⟨n, rfl, _, hw⟩ := DataW.trod_int ht hx; exact ⟨n, rfl, hw⟩⟩
theorem opens_slice {P : Program} {t e : TypeId} {α : Type} {k : Kind α} {G : α → Prop} (z : Nat) (ht : P.underlying t = some (.slice e)) (hs : P.cellsOf e = z) (o : Opens P e k G) :
    Opens P t (kSlice z k) (fun xs => xs.length ≤ maxLen ∧ ∀ x ∈ xs, G x) := by
  refine ⟨fun {H enc W fuel cs x} hx => ?_⟩
  rcases Go.Deep.open_slice ht hx with ⟨rfl, _⟩ | ⟨a, len, cap, m, n, D, Pl, rfl, _, hl, hm, hmm, _, hel⟩
  · exact ⟨[], ⟨none, 0, rfl, Nat.le_refl _, fun j x h => by simp at h⟩, by simp, fun x hx => by cases hx⟩
  · have hlm : len ≤ m := by rw [hmm]; split <;> omega
    have key : ∀ j, j ≤ len → ∃ xs : List α, xs.length = j ∧ Elems (whole W) (some a) z k xs ∧ ∀ p ∈ xs, G p := by
      intro j
      induction j with
      | zero => intro _; exact ⟨[], rfl, fun i p h => by simp at h, fun p h => by cases h⟩
      | succ j ih =>
        intro hj
        obtain ⟨xs, h1, h2, h3⟩ := ih (by omega)
        obtain ⟨c, hc, hd⟩ := hel j (by omega)
        obtain ⟨p, hK, hG⟩ := o.get hd
        obtain ⟨_, hcl, hcc⟩ := World.cells?_some hc
        rw [hs] at hcl hcc
        refine ⟨xs ++ [p], by simp [h1], fun i q hq => ?_, fun q hq => (List.mem_append.1 hq).elim (h3 q) (fun hq => by rw [List.mem_singleton.1 hq]; exact hG)⟩
        by_cases hi : i < xs.length
        · rw [List.getElem?_append_left hi] at hq
          exact h2 i q hq
        · rw [List.getElem?_append_right (by omega)] at hq
          have hi2 : i = j := by
            have := (List.getElem?_eq_some_iff.1 hq).1
            simp at this
            omega
          subst hi2
          rw [h1] at hq
          simp at hq
          subst hq
          refine ⟨a, c, rfl, hcl, hK, fun r u hu => ?_⟩
          have hr : r < z := by rw [← hcl]; exact (List.getElem?_eq_some_iff.1 hu).1
          have hcell := hcc r hr
          rw [hu, add_add] at hcell
          exact whole_cell hcell
    obtain ⟨xs, h1, h2, h3⟩ := key len (Nat.le_refl _)
    subst h1
    exact ⟨xs, ⟨some a, cap, rfl, hl, h2⟩, Nat.le_trans hl hm, h3⟩

/-- The fields fs, the first of which begins at off, are of kind k; they take z cells. -/
structure PartOpens (P : Program) (fs : List Field) (off z : Nat) {α : Type} (k : Kind α) (G : α → Prop) : Prop where
  get : ∀ {H : Type} {enc : TypeId × Value → H} {W : World} {fuel : Nat} {cs : List Value} {xs : List (DataW H × List MemPlace)},
    (∀ (i : Nat) (f : Field), fs[i]? = some f → DataW.trod enc P W 0 (fun _ => true) true fuel f.type ((cs.drop f.offset).take (P.cellsOf f.type)) = xs[i]?) → xs.length = fs.length → cs.length = off + z → ∃ a : α, k (whole W) a (cs.drop off) ∧ G a
theorem part_one {P : Program} {f : Field} {off : Nat} {α : Type} {k : Kind α} {G : α → Prop} (z : Nat) (hoff : f.offset = off) (hs : P.cellsOf f.type = z) (o : Opens P f.type k G) : PartOpens P [f] off z k G := by
  refine ⟨fun {H enc W fuel cs xs} hx hl hc => ?_⟩
  have h := hx 0 f rfl
  rw [List.getElem?_eq_getElem (by rw [hl]; simp), hoff, hs, List.take_of_length_le (by rw [List.length_drop]; omega)] at h
  exact o.get h
theorem part_cons {P : Program} {f : Field} {fs : List Field} {off y : Nat} {α β : Type} {k : Kind α} {k' : Kind β} {G : α → Prop} {G' : β → Prop} (z : Nat) (hoff : f.offset = off) (hs : P.cellsOf f.type = z) (o : Opens P f.type k G)
    (r : PartOpens P fs (off + z) y k' G') : PartOpens P (f :: fs) off (z + y) (kPair z k k') (fun p => G p.1 ∧ G' p.2) := by
  refine ⟨fun {H enc W fuel cs xs} hx hl hc => ?_⟩
  have hc' : cs.length = off + z + y := by rw [hc]; omega
  match xs, hl with
  | x :: xs, hl =>
    have h := hx 0 f rfl
    rw [List.getElem?_cons_zero, hoff, hs] at h
    obtain ⟨a, h1, h2⟩ := o.get h
    obtain ⟨b, h3, h4⟩ := r.get (xs := xs) (cs := cs) (fun i g hg => by have := hx (i + 1) g (by simpa using hg); simpa using this) (by simpa using hl) hc'
    refine ⟨(a, b), ⟨_, _, ?_, ?_, h1, h3⟩, h2, h4⟩
    · rw [← List.drop_drop, List.take_append_drop]
    · rw [List.length_take, List.length_drop]; omega
theorem opens_struct {P : Program} {t : TypeId} {fs : Array Field} {α : Type} {k : Kind α} {G : α → Prop} (z : Nat) (ht : P.underlying t = some (.struct fs)) (hs : P.cellsOf t = z) (o : PartOpens P fs.toList 0 z k G) : Opens P t k G := by
  refine ⟨fun {H enc W fuel cs x} hx => ?_⟩
  obtain ⟨xs, n, _, _, hl, hxl, hall⟩ := DataW.trod_struct ht hx
  obtain ⟨a, h1, h2⟩ := o.get (cs := cs) (xs := xs) (fun i fl hf => hall i fl (by simpa using hf)) (by simpa using hxl) (by rw [hl, hs]; omega)
  exact ⟨a, by simpa using h1, h2⟩
end Go.Al
/- The table of the seat's types. -/
namespace Go.Proofs.Ytpbpjmnnbmjmbaa.Al
open Go Go.Al Go.Proofs
def tabL : List (Nat × TD) := [(1, ⟨1, 8, (Go.TypeDesc.func #[] #[] false), some .nilFunc⟩),
  (2, ⟨1, 8, (Go.TypeDesc.int Go.IntKind.i64), some (.int .i64 0)⟩),
  (3, ⟨1, 8, (Go.TypeDesc.int Go.IntKind.i64), some (.int .i64 0)⟩),
  (4, ⟨1, 1, Go.TypeDesc.bool, some (.bool false)⟩),
  (5, ⟨1, 1, (Go.TypeDesc.int Go.IntKind.u8), some (.int .u8 0)⟩),
  (9, ⟨1, 16, Go.TypeDesc.string, some (.string .empty)⟩),
  (12, ⟨1, 8, (Go.TypeDesc.int Go.IntKind.u64), some (.int .u64 0)⟩),
  (20, ⟨1, 16, (Go.TypeDesc.interface #[]), some .nilIface⟩),
  (21, ⟨1, 4, (Go.TypeDesc.int Go.IntKind.i32), some (.int .i32 0)⟩),
  (22, ⟨1, 24, (Go.TypeDesc.slice 27), some (.slice none 0 0)⟩),
  (23, ⟨1, 8, (Go.TypeDesc.func #[22] #[4] false), some .nilFunc⟩),
  (24, ⟨1, 8, (Go.TypeDesc.func #[] #[4] false), some .nilFunc⟩),
  (25, ⟨1, 8, (Go.TypeDesc.func #[22, 22] #[4] false), some .nilFunc⟩),
  (26, ⟨4, 32, (Go.TypeDesc.struct #[{ name := "Fund", type := 3, offset := 0, embedded := false, tag := "", pkgPath := "", byteOffset := 0 }, { name := "Object", type := 3, offset := 1, embedded := false, tag := "", pkgPath := "", byteOffset := 8 }, { name := "Node", type := 3, offset := 2, embedded := false, tag := "", pkgPath := "", byteOffset := 16 }, { name := "Amount", type := 3, offset := 3, embedded := false, tag := "", pkgPath := "", byteOffset := 24 }]), some (.agg #[(.int .i64 0), (.int .i64 0), (.int .i64 0), (.int .i64 0)])⟩),
  (27, ⟨4, 32, (Go.TypeDesc.struct #[{ name := "Fund", type := 3, offset := 0, embedded := false, tag := "", pkgPath := "", byteOffset := 0 }, { name := "Object", type := 3, offset := 1, embedded := false, tag := "", pkgPath := "", byteOffset := 8 }, { name := "Node", type := 3, offset := 2, embedded := false, tag := "", pkgPath := "", byteOffset := 16 }, { name := "Amount", type := 3, offset := 3, embedded := false, tag := "", pkgPath := "", byteOffset := 24 }]), some (.agg #[(.int .i64 0), (.int .i64 0), (.int .i64 0), (.int .i64 0)])⟩),
  (28, ⟨1, 8, (Go.TypeDesc.func #[22] #[22] false), some .nilFunc⟩),
  (29, ⟨1, 8, (Go.TypeDesc.func #[27] #[22] false), some .nilFunc⟩),
  (30, ⟨1, 8, (Go.TypeDesc.func #[37] #[22] true), some .nilFunc⟩),
  (31, ⟨1, 8, (Go.TypeDesc.func #[22, 32] #[4] false), some .nilFunc⟩),
  (32, ⟨1, 8, (Go.TypeDesc.func #[27] #[4] false), some .nilFunc⟩),
  (33, ⟨1, 8, (Go.TypeDesc.map 3 3), some (.map none)⟩),
  (34, ⟨1, 8, (Go.TypeDesc.func #[22, 36] #[] false), some .nilFunc⟩),
  (35, ⟨1, 8, (Go.TypeDesc.func #[3, 3] #[3] false), some .nilFunc⟩),
  (36, ⟨1, 8, (Go.TypeDesc.func #[27, 27] #[3] false), some .nilFunc⟩),
  (37, ⟨1, 24, (Go.TypeDesc.slice 22), some (.slice none 0 0)⟩),
  (38, ⟨1, 8, (Go.TypeDesc.func #[22, 3] #[22] false), some .nilFunc⟩),
  (39, ⟨1, 8, (Go.TypeDesc.func #[22, 32] #[3] false), some .nilFunc⟩),
  (40, ⟨1, 8, (Go.TypeDesc.func #[22, 3, 3, 3, 36] #[] false), some .nilFunc⟩),
  (41, ⟨1, 8, (Go.TypeDesc.func #[42] #[3] false), some .nilFunc⟩),
  (42, ⟨1, 8, (Go.TypeDesc.int Go.IntKind.u64), some (.int .u64 0)⟩),
  (43, ⟨1, 8, (Go.TypeDesc.func #[3] #[4] false), some .nilFunc⟩),
  (44, ⟨1, 8, (Go.TypeDesc.func #[22, 3, 3, 36] #[] false), some .nilFunc⟩),
  (45, ⟨1, 8, (Go.TypeDesc.int Go.IntKind.i64), some (.int .i64 0)⟩),
  (47, ⟨1, 8, (Go.TypeDesc.func #[22, 3, 3, 36] #[3, 45] false), some .nilFunc⟩),
  (48, ⟨1, 8, (Go.TypeDesc.func #[22, 3, 3, 36] #[4] false), some .nilFunc⟩),
  (49, ⟨1, 8, (Go.TypeDesc.func #[22, 3, 3, 3, 36] #[3] false), some .nilFunc⟩),
  (51, ⟨1, 8, (Go.TypeDesc.func #[22, 3, 3, 3, 36] #[3, 4] false), some .nilFunc⟩),
  (52, ⟨1, 8, (Go.TypeDesc.func #[53] #[3] false), some .nilFunc⟩),
  (53, ⟨1, 4, (Go.TypeDesc.int Go.IntKind.u32), some (.int .u32 0)⟩),
  (54, ⟨1, 8, (Go.TypeDesc.func #[55] #[3] false), some .nilFunc⟩),
  (55, ⟨1, 8, (Go.TypeDesc.int Go.IntKind.u64), some (.int .u64 0)⟩),
  (56, ⟨1, 8, (Go.TypeDesc.int Go.IntKind.u64), some (.int .u64 0)⟩),
  (57, ⟨1, 8, (Go.TypeDesc.func #[3] #[42] false), some .nilFunc⟩),
  (58, ⟨1, 8, (Go.TypeDesc.func #[] #[55] false), some .nilFunc⟩),
  (59, ⟨1, 8, (Go.TypeDesc.func #[22, 3, 60, 36] #[3] false), some .nilFunc⟩),
  (60, ⟨1, 8, (Go.TypeDesc.pointer 3), some (.pointer none)⟩),
  (61, ⟨1, 8, (Go.TypeDesc.func #[22, 3, 3, 3, 60, 36] #[3] false), some .nilFunc⟩),
  (62, ⟨1, 8, (Go.TypeDesc.pointer 56), some (.pointer none)⟩),
  (64, ⟨1, 8, (Go.TypeDesc.func #[22, 3, 3, 60, 36] #[3, 3] false), some .nilFunc⟩),
  (65, ⟨1, 8, (Go.TypeDesc.func #[] #[9] false), some .nilFunc⟩),
  (71, ⟨1, 8, (Go.TypeDesc.func #[] #[3] false), some .nilFunc⟩),
  (74, ⟨1, 8, (Go.TypeDesc.func #[80, 80] #[4] false), some .nilFunc⟩),
  (75, ⟨1, 8, (Go.TypeDesc.pointer 5), some (.pointer none)⟩),
  (78, ⟨11, 48, (Go.TypeDesc.struct #[{ name := "Size_", type := 12, offset := 0, embedded := false, tag := "", pkgPath := "", byteOffset := 0 }, { name := "PtrBytes", type := 12, offset := 1, embedded := false, tag := "", pkgPath := "", byteOffset := 8 }, { name := "Hash", type := 53, offset := 2, embedded := false, tag := "", pkgPath := "", byteOffset := 16 }, { name := "TFlag", type := 72, offset := 3, embedded := false, tag := "", pkgPath := "", byteOffset := 20 }, { name := "Align_", type := 5, offset := 4, embedded := false, tag := "", pkgPath := "", byteOffset := 21 }, { name := "FieldAlign_", type := 5, offset := 5, embedded := false, tag := "", pkgPath := "", byteOffset := 22 }, { name := "Kind_", type := 73, offset := 6, embedded := false, tag := "", pkgPath := "", byteOffset := 23 }, { name := "Equal", type := 74, offset := 7, embedded := false, tag := "", pkgPath := "", byteOffset := 24 }, { name := "GCData", type := 75, offset := 8, embedded := false, tag := "", pkgPath := "", byteOffset := 32 }, { name := "Str", type := 76, offset := 9, embedded := false, tag := "", pkgPath := "", byteOffset := 40 }, { name := "PtrToThis", type := 77, offset := 10, embedded := false, tag := "", pkgPath := "", byteOffset := 44 }]), some (.agg #[(.int .u64 0), (.int .u64 0), (.int .u32 0), (.int .u8 0), (.int .u8 0), (.int .u8 0), (.int .u8 0), .nilFunc, (.pointer none), (.int .i32 0), (.int .i32 0)])⟩)]
set_option maxRecDepth 100000 in
theorem tab_ok : TabOk Try.prog (tabGo tabL) := tabGo_ok (⟨⟨Try.underlying1, by kernel_rfl⟩, ⟨⟨Try.underlying2, by kernel_rfl⟩, ⟨⟨Try.underlying3, by kernel_rfl⟩, ⟨⟨Try.underlying4, by kernel_rfl⟩, ⟨⟨Try.underlying5, by kernel_rfl⟩, ⟨⟨Try.underlying9, by kernel_rfl⟩, ⟨⟨Try.underlying12, by kernel_rfl⟩, ⟨⟨Try.underlying20, by kernel_rfl⟩, ⟨⟨Try.underlying21, by kernel_rfl⟩, ⟨⟨Try.underlying22, by kernel_rfl⟩, ⟨⟨Try.underlying23, by kernel_rfl⟩, ⟨⟨Try.underlying24, by kernel_rfl⟩, ⟨⟨Try.underlying25, by kernel_rfl⟩, ⟨⟨Try.underlying26, by kernel_rfl⟩, ⟨⟨Try.underlying27, by kernel_rfl⟩, ⟨⟨Try.underlying28, by kernel_rfl⟩, ⟨⟨Try.underlying29, by kernel_rfl⟩, ⟨⟨Try.underlying30, by kernel_rfl⟩, ⟨⟨Try.underlying31, by kernel_rfl⟩, ⟨⟨Try.underlying32, by kernel_rfl⟩, ⟨⟨Try.underlying33, by kernel_rfl⟩, ⟨⟨Try.underlying34, by kernel_rfl⟩, ⟨⟨Try.underlying35, by kernel_rfl⟩, ⟨⟨Try.underlying36, by kernel_rfl⟩, ⟨⟨Try.underlying37, by kernel_rfl⟩, ⟨⟨Try.underlying38, by kernel_rfl⟩, ⟨⟨Try.underlying39, by kernel_rfl⟩, ⟨⟨Try.underlying40, by kernel_rfl⟩, ⟨⟨Try.underlying41, by kernel_rfl⟩, ⟨⟨Try.underlying42, by kernel_rfl⟩, ⟨⟨Try.underlying43, by kernel_rfl⟩, ⟨⟨Try.underlying44, by kernel_rfl⟩, ⟨⟨Try.underlying45, by kernel_rfl⟩, ⟨⟨Try.underlying47, by kernel_rfl⟩, ⟨⟨Try.underlying48, by kernel_rfl⟩, ⟨⟨Try.underlying49, by kernel_rfl⟩, ⟨⟨Try.underlying51, by kernel_rfl⟩, ⟨⟨Try.underlying52, by kernel_rfl⟩, ⟨⟨Try.underlying53, by kernel_rfl⟩, ⟨⟨Try.underlying54, by kernel_rfl⟩, ⟨⟨Try.underlying55, by kernel_rfl⟩, ⟨⟨Try.underlying56, by kernel_rfl⟩, ⟨⟨Try.underlying57, by kernel_rfl⟩, ⟨⟨Try.underlying58, by kernel_rfl⟩, ⟨⟨Try.underlying59, by kernel_rfl⟩, ⟨⟨Try.underlying60, by kernel_rfl⟩, ⟨⟨Try.underlying61, by kernel_rfl⟩, ⟨⟨Try.underlying62, by kernel_rfl⟩, ⟨⟨Try.underlying64, by kernel_rfl⟩, ⟨⟨Try.underlying65, by kernel_rfl⟩, ⟨⟨Try.underlying71, by kernel_rfl⟩, ⟨⟨Try.underlying74, by kernel_rfl⟩, ⟨⟨Try.underlying75, by kernel_rfl⟩, ⟨⟨Try.underlying78, by kernel_rfl⟩, trivial⟩⟩⟩⟩⟩⟩⟩⟩⟩⟩⟩⟩⟩⟩⟩⟩⟩⟩⟩⟩⟩⟩⟩⟩⟩⟩⟩⟩⟩⟩⟩⟩⟩⟩⟩⟩⟩⟩⟩⟩⟩⟩⟩⟩⟩⟩⟩⟩⟩⟩⟩⟩⟩⟩)
end Go.Proofs.Ytpbpjmnnbmjmbaa.Al

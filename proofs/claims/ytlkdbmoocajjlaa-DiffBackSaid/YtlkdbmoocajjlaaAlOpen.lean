/- The logic of a known part of memory, 9: what reads as data when a law is called. It holds for every program. -/
import Derived.Test.YtlkdbmoocajjlaaAlRow
import Derived.ChangeArms
import Derived.Deep.Slices
import Derived.DataReads
import Derived.Carry
import Derived.OpenShut
namespace Go.Al
open Go Go.RowKit

/-- All that is in memory. -/
def whole (W : World) : Heap := fun b => W.heap[b]?
theorem has_whole (W : World) : Has (whole W) W := fun _ _ h => h
theorem whole_cell {W : World} {a : Addr} {v : Value} (h : W.cell? a = some v) : (whole W).cell? a = some v := by
  unfold World.cell? at h
  unfold Heap.cell? whole
  split at h
  · next c e fz hb => rw [hb]; exact h
  · cases h
theorem below_whole {W W' : World} {F' : Heap} (h : Ext (whole W) F') (hF : Has F' W') (hr : Go.Al.Rest W W') : Below W.heap.size W W' := by
  refine ⟨hr.os, hr.tape, hr.output, hr.size, fun k hk => ?_⟩
  have hb : whole W k = some W.heap[k] := by unfold whole; simp [hk]
  rw [hF k _ (h k _ hb)]
  simp [hk]

abbrev Kind (α : Type) := Heap → α → List Value → Prop
def kInt (k : IntKind) : Kind Int := fun _ n cs => cs = [.int k n]
def kBool : Kind Bool := fun _ b cs => cs = [.bool b]
def kStr : Kind ByteArray := fun _ s cs => cs = [.string s]
/-- Elements of z cells each. -/
def Elems {α : Type} (F : Heap) (A : Option Addr) (z : Nat) (K : Kind α) (xs : List α) : Prop := ∀ j x, xs[j]? = some x → ∃ a c, A = some a ∧ c.length = z ∧ K F x c ∧ ∀ q u, c[q]? = some u → F.cell? (a.add (j * z + q)) = some u
def kSlice {α : Type} (z : Nat) (K : Kind α) : Kind (List α) := fun F xs cs => ∃ A c, cs = [.slice A xs.length c] ∧ xs.length ≤ c ∧ Elems F A z K xs
def kPair {α β : Type} (z : Nat) (K : Kind α) (L : Kind β) : Kind (α × β) := fun F p cs => ∃ c d, cs = c ++ d ∧ c.length = z ∧ K F p.1 c ∧ L F p.2 d

/-- What reads as data of type t is of kind K, and good. -/
structure Opens (P : Program) (t : TypeId) {α : Type} (K : Kind α) (G : α → Prop) : Prop where
  get : ∀ {H : Type} {enc : TypeId × Value → H} {W : World} {fuel : Nat} {cs : List Value} {x : DataW H × List MemPlace}, DataW.trod enc P W 0 (fun _ => true) true fuel t cs = some x → ∃ a : α, K (whole W) a cs ∧ G a
theorem Opens.trod {P : Program} {t : TypeId} {α : Type} {k : Kind α} {G : α → Prop} (o : Opens P t k G) {H : Type} {enc : TypeId × Value → H} {W : World} {v : Value} {d : DataW H} {ps : List MemPlace}
    (h : DataW.Trod enc P W 0 (fun _ => true) true t v d ps) : ∃ a : α, k (whole W) a v.cells.toList ∧ G a := by
  obtain ⟨fuel, hf⟩ := h
  exact o.get hf
theorem opens_int {P : Program} {t : TypeId} {ik : IntKind} (ht : P.underlying t = some (.int ik)) : Opens P t (kInt ik) (fun n => (Lit.int ik n).wf = true) :=
  ⟨fun hx => by obtain ⟨n, rfl, _, hw⟩ := DataW.trod_int ht hx; exact ⟨n, rfl, hw⟩⟩
theorem opens_bool {P : Program} {t : TypeId} (ht : P.underlying t = some .bool) : Opens P t kBool (fun _ => True) :=
  ⟨fun hx => by obtain ⟨b, rfl, _⟩ := DataW.trod_bool ht hx; exact ⟨b, rfl, trivial⟩⟩
theorem opens_string {P : Program} {t : TypeId} (ht : P.underlying t = some .string) : Opens P t kStr (fun s => s.size ≤ maxLen) :=
  ⟨fun hx => by obtain ⟨s, rfl, _, hs⟩ := DataW.trod_string ht hx; exact ⟨s, rfl, hs⟩⟩
theorem opens_slice {P : Program} {t e : TypeId} {α : Type} {k : Kind α} {G : α → Prop} (z : Nat) (ht : P.underlying t = some (.slice e)) (hs : P.cellsOf e = z) (o : Opens P e k G) :
    Opens P t (kSlice z k) (fun xs => xs.length ≤ maxLen ∧ ∀ x ∈ xs, G x) := by
  refine ⟨fun {H enc W fuel cs x} hx => ?_⟩
  rcases Go.Deep.open_slice ht hx with ⟨rfl, _⟩ | ⟨a, len, cap, m, n, D, Pl, rfl, _, hl, hm, hmm, _, hel⟩
  · exact ⟨[], ⟨none, 0, rfl, Nat.le_refl _, fun j x h => by simp at h⟩, by simp, fun x hx => by cases hx⟩
  · have hlm : len ≤ m := by rw [hmm]; split <;> omega
    have key : ∀ j, j ≤ len → ∃ xs : List α, xs.length = j ∧ Elems (whole W) (some a) z k xs ∧ ∀ p ∈ xs, G p := by
      intro j
      induction j with
      | zero => intro _; exact ⟨[], rfl, fun i p h => by simp at h, fun p h => by cases h⟩
      | succ j ih =>
        intro hj
        obtain ⟨xs, h1, h2, h3⟩ := ih (by omega)
        obtain ⟨c, hc, hd⟩ := hel j (by omega)
        obtain ⟨p, hK, hG⟩ := o.get hd
        obtain ⟨_, hcl, hcc⟩ := World.cells?_some hc
        rw [hs] at hcl hcc
        refine ⟨xs ++ [p], by simp [h1], fun i q hq => ?_, fun q hq => (List.mem_append.1 hq).elim (h3 q) (fun hq => by rw [List.mem_singleton.1 hq]; exact hG)⟩
        by_cases hi : i < xs.length
        · rw [List.getElem?_append_left hi] at hq
          exact h2 i q hq
        · rw [List.getElem?_append_right (by omega)] at hq
          have hi2 : i = j := by
            have := (List.getElem?_eq_some_iff.1 hq).1
            simp at this
            omega
          subst hi2
          rw [h1] at hq
          simp at hq
          subst hq
          refine ⟨a, c, rfl, hcl, hK, fun r u hu => ?_⟩
          have hr : r < z := by rw [← hcl]; exact (List.getElem?_eq_some_iff.1 hu).1
          have hcell := hcc r hr
          rw [hu, add_add] at hcell
          exact whole_cell hcell
    obtain ⟨xs, h1, h2, h3⟩ := key len (Nat.le_refl _)
    subst h1
    exact ⟨xs, ⟨some a, cap, rfl, hl, h2⟩, Nat.le_trans hl hm, h3⟩

/-- The fields fs, the first of which begins at off, are of kind k; they take z cells. -/
structure PartOpens (P : Program) (fs : List Field) (off z : Nat) {α : Type} (k : Kind α) (G : α → Prop) : Prop where
  get : ∀ {H : Type} {enc : TypeId × Value → H} {W : World} {fuel : Nat} {cs : List Value} {xs : List (DataW H × List MemPlace)},
    (∀ (i : Nat) (f : Field), fs[i]? = some f → DataW.trod enc P W 0 (fun _ => true) true fuel f.type ((cs.drop f.offset).take (P.cellsOf f.type)) = xs[i]?) → xs.length = fs.length → cs.length = off + z → ∃ a : α, k (whole W) a (cs.drop off) ∧ G a
theorem part_one {P : Program} {f : Field} {off : Nat} {α : Type} {k : Kind α} {G : α → Prop} (z : Nat) (hoff : f.offset = off) (hs : P.cellsOf f.type = z) (o : Opens P f.type k G) : PartOpens P [f] off z k G := by
  refine ⟨fun {H enc W fuel cs xs} hx hl hc => ?_⟩
  have h := hx 0 f rfl
  rw [List.getElem?_eq_getElem (by rw [hl]; simp), hoff, hs, List.take_of_length_le (by rw [List.length_drop]; omega)] at h
  exact o.get h
theorem part_cons {P : Program} {f : Field} {fs : List Field} {off y : Nat} {α β : Type} {k : Kind α} {k' : Kind β} {G : α → Prop} {G' : β → Prop} (z : Nat) (hoff : f.offset = off) (hs : P.cellsOf f.type = z) (o : Opens P f.type k G)
    (r : PartOpens P fs (off + z) y k' G') : PartOpens P (f :: fs) off (z + y) (kPair z k k') (fun p => G p.1 ∧ G' p.2) := by
  refine ⟨fun {H enc W fuel cs xs} hx hl hc => ?_⟩
  have hc' : cs.length = off + z + y := by rw [hc]; omega
  match xs, hl with
  | x :: xs, hl =>
    have h := hx 0 f rfl
    rw [List.getElem?_cons_zero, hoff, hs] at h
    obtain ⟨a, h1, h2⟩ := o.get h
    obtain ⟨b, h3, h4⟩ := r.get (xs := xs) (cs := cs) (fun i g hg => by have := hx (i + 1) g (by simpa using hg); simpa using this) (by simpa using hl) hc'
    refine ⟨(a, b), ⟨_, _, ?_, ?_, h1, h3⟩, h2, h4⟩
    · rw [← List.drop_drop, List.take_append_drop]
    · rw [List.length_take, List.length_drop]; omega
theorem opens_struct {P : Program} {t : TypeId} {fs : Array Field} {α : Type} {k : Kind α} {G : α → Prop} (z : Nat) (ht : P.underlying t = some (.struct fs)) (hs : P.cellsOf t = z) (o : PartOpens P fs.toList 0 z k G) : Opens P t k G := by
  refine ⟨fun {H enc W fuel cs x} hx => ?_⟩
  obtain ⟨xs, n, _, _, hl, hxl, hall⟩ := DataW.trod_struct ht hx
  obtain ⟨a, h1, h2⟩ := o.get (cs := cs) (xs := xs) (fun i fl hf => hall i fl (by simpa using hf)) (by simpa using hxl) (by rw [hl, hs]; omega)
  exact ⟨a, by simpa using h1, h2⟩
theorem okWide_array {P : Program} {W : World} {r : _} {base : Nat} {t e : TypeId} {n : Nat} {v : Value} (ht : P.underlying t = some (.array n e)) (h : Value.okWide P W r base t v) : ∃ cs, v = .agg cs ∧ cs.size = P.cellsOf t := by
  simp only [Value.okWide, ht] at h
  obtain ⟨cs, h1, h2, _⟩ := h
  exact ⟨cs, h1, h2⟩
end Go.Al

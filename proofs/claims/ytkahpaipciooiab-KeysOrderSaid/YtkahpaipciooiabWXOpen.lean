/- Words of this session for the rows of laws over structs and over slices of structs: an argument that reads as data is of the kind that the printed functions speak of. They hold for every program whose types are as told in the premises. -/
import Derived.Test.YtkahpaipciooiabWXWords
import Derived.ChangeArms
import Derived.Deep.Slices
import Derived.DataReads
import Derived.Carry
import Derived.OpenShut
namespace Go.Proofs.YtkahpaipciooiabW.XOpen
open Go.RowKit Go.Proofs.YtkahpaipciooiabW.PrintWords Go.Proofs.YtkahpaipciooiabW.PrintLast Go.Proofs.YtkahpaipciooiabW.PrintMore

/-- What reads as data of type t is of kind k, and good. -/
structure Opens (P : Program) (t : TypeId) {α : Type} (k : Kd α) (G : α → Prop) : Prop where
  get : ∀ {H : Type} {enc : TypeId × Value → H} {W : World} {fuel : Nat} {cs : List Value} {x : DataW H × List MemPlace}, DataW.trod enc P W 0 (fun _ => true) true fuel t cs = some x → ∃ a : α, k.K W a cs ∧ G a
theorem Opens.trod {P : Program} {t : TypeId} {α : Type} {k : Kd α} {G : α → Prop} (o : Opens P t k G) {H : Type} {enc : TypeId × Value → H} {W : World} {v : Value} {d : DataW H} {ps : List MemPlace}
    (h : DataW.Trod enc P W 0 (fun _ => true) true t v d ps) : ∃ a : α, k.K W a v.cells.toList ∧ G a := by
  obtain ⟨fuel, hf⟩ := h
  exact o.get hf
theorem Opens.weaken {P : Program} {t : TypeId} {α : Type} {k : Kd α} {G G' : α → Prop} (o : Opens P t k G) (h : ∀ a, G a → G' a) : Opens P t k G' :=
  ⟨fun hx => by obtain ⟨a, h1, h2⟩ := o.get hx; exact ⟨a, h1, h a h2⟩⟩
theorem opens_int {P : Program} {t : TypeId} {ik : IntKind} (ht : P.underlying t = some (.int ik)) : Opens P t (Kd.int ik) (fun n => (Lit.int ik n).wf = true) :=
  ⟨fun hx => by obtain ⟨n, rfl, _, hw⟩ := DataW.trod_int ht hx; exact ⟨n, rfl, hw⟩⟩
theorem opens_bool {P : Program} {t : TypeId} (ht : P.underlying t = some .bool) : Opens P t Kd.bool (fun _ => True) :=
  ⟨fun hx => by obtain ⟨b, rfl, _⟩ := DataW.trod_bool ht hx; exact ⟨b, rfl, trivial⟩⟩
theorem opens_string {P : Program} {t : TypeId} (ht : P.underlying t = some .string) : Opens P t Kd.string (fun s => s.size ≤ maxLen) :=
  ⟨fun hx => by obtain ⟨s, rfl, _, hs⟩ := DataW.trod_string ht hx; exact ⟨s, rfl, hs⟩⟩
theorem opens_slice {P : Program} {t e : TypeId} {α : Type} {k : Kd α} {G : α → Prop} (ht : P.underlying t = some (.slice e)) (hs : P.cellsOf e = k.sz) (o : Opens P e k G) :
    Opens P t (Kd.slice e k) (fun xs => xs.length ≤ maxLen ∧ ∀ x ∈ xs, G x) := by
  refine ⟨fun {H enc W fuel cs x} hx => ?_⟩
  rcases Go.Deep.open_slice ht hx with ⟨rfl, _⟩ | ⟨a, len, cap, m, n, D, Pl, rfl, _, hl, hm, hmm, _, hel⟩
  · exact ⟨[], ⟨none, 0, rfl, Nat.le_refl _, Kd.C_nil _ _⟩, by simp, fun x hx => by cases hx⟩
  · have hlm : len ≤ m := by rw [hmm]; split <;> omega
    have key : ∀ j, j ≤ len → ∃ xs : List α, xs.length = j ∧ (∀ i p, xs[i]? = some p → ∃ c, c.length = k.sz ∧ k.K W p c ∧ ∀ q u, c[q]? = some u → W.cell? (a.add (i * k.sz + q)) = some u) ∧ ∀ p ∈ xs, G p := by
      intro j
      induction j with
      | zero => intro _; exact ⟨[], rfl, fun i p h => by simp at h, fun p h => by cases h⟩
      | succ j ih =>
        intro hj
        obtain ⟨xs, h1, h2, h3⟩ := ih (by omega)
        obtain ⟨c, hc, hd⟩ := hel j (by omega)
        obtain ⟨p, hK, hG⟩ := o.get hd
        obtain ⟨_, hcl, hcc⟩ := World.cells?_some hc
        rw [hs] at hcl hcc
        refine ⟨xs ++ [p], by simp [h1], fun i q hq => ?_, fun q hq => (List.mem_append.1 hq).elim (h3 q) (fun hq => by rw [List.mem_singleton.1 hq]; exact hG)⟩
        by_cases hi : i < xs.length
        · rw [List.getElem?_append_left hi] at hq
          exact h2 i q hq
        · rw [List.getElem?_append_right (by omega)] at hq
          have hi2 : i = j := by
            have := (List.getElem?_eq_some_iff.1 hq).1
            simp at this
            omega
          subst hi2
          rw [h1] at hq
          simp at hq
          subst hq
          refine ⟨c, hcl, hK, fun r u hu => ?_⟩
          have hr : r < k.sz := by rw [← hcl]; exact (List.getElem?_eq_some_iff.1 hu).1
          rw [← hu, ← hcc r hr, Addr.add_add]
    obtain ⟨xs, h1, h2, h3⟩ := key len (Nat.le_refl _)
    subst h1
    have hmx : xs.length ≤ maxLen := Nat.le_trans hl hm
    exact ⟨xs, ⟨some a, cap, rfl, hl, rfl, hmx, fun _ => ⟨a, rfl, fun j p hp => h2 j p hp⟩⟩, hmx, h3⟩

/-- The fields fs, the first of which begins at off, are of kind k. -/
structure PartOpens (P : Program) (fs : List Field) (off : Nat) {α : Type} (k : Kd α) (G : α → Prop) : Prop where
  get : ∀ {H : Type} {enc : TypeId × Value → H} {W : World} {fuel : Nat} {cs : List Value} {xs : List (DataW H × List MemPlace)},
    (∀ (i : Nat) (f : Field), fs[i]? = some f → DataW.trod enc P W 0 (fun _ => true) true fuel f.type ((cs.drop f.offset).take (P.cellsOf f.type)) = xs[i]?) → xs.length = fs.length → cs.length = off + k.sz → ∃ a : α, k.K W a (cs.drop off) ∧ G a
theorem part_one {P : Program} {f : Field} {off : Nat} {α : Type} {k : Kd α} {G : α → Prop} (hoff : f.offset = off) (hs : P.cellsOf f.type = k.sz) (o : Opens P f.type k G) : PartOpens P [f] off k G := by
  refine ⟨fun {H enc W fuel cs xs} hx hl hc => ?_⟩
  have h := hx 0 f rfl
  rw [List.getElem?_eq_getElem (by rw [hl]; simp), hoff, hs, List.take_of_length_le (by rw [List.length_drop]; omega)] at h
  exact o.get h
theorem part_cons {P : Program} {f : Field} {fs : List Field} {off : Nat} {α β : Type} {k : Kd α} {k' : Kd β} {G : α → Prop} {G' : β → Prop} (hoff : f.offset = off) (hs : P.cellsOf f.type = k.sz) (o : Opens P f.type k G)
    (r : PartOpens P fs (off + k.sz) k' G') : PartOpens P (f :: fs) off (Kd.pair k k') (fun p => G p.1 ∧ G' p.2) := by
  refine ⟨fun {H enc W fuel cs xs} hx hl hc => ?_⟩
  have hc' : cs.length = off + k.sz + k'.sz := by rw [hc]; show off + (k.sz + k'.sz) = _; omega
  match xs, hl with
  | x :: xs, hl =>
    have h := hx 0 f rfl
    rw [List.getElem?_cons_zero, hoff, hs] at h
    obtain ⟨a, h1, h2⟩ := o.get h
    obtain ⟨b, h3, h4⟩ := r.get (xs := xs) (cs := cs) (fun i g hg => by have := hx (i + 1) g (by simpa using hg); simpa using this) (by simpa using hl) hc'
    refine ⟨(a, b), ⟨_, _, ?_, h1, h3⟩, h2, h4⟩
    rw [← List.drop_drop, List.take_append_drop]
theorem opens_struct {P : Program} {t : TypeId} {fs : Array Field} {α β : Type} {k : Kd α} {G : α → Prop} {f : β → α} (g : α → β) (hfg : ∀ a, f (g a) = a) (ht : P.underlying t = some (.struct fs)) (hs : P.cellsOf t = k.sz) (o : PartOpens P fs.toList 0 k G) :
    Opens P t (Kd.iso k f) (fun b => G (f b)) := by
  refine ⟨fun {H enc W fuel cs x} hx => ?_⟩
  obtain ⟨xs, n, _, _, hl, hxl, hall⟩ := DataW.trod_struct ht hx
  obtain ⟨a, h1, h2⟩ := o.get (cs := cs) (xs := xs) (fun i fl hf => hall i fl (by simpa using hf)) (by simpa using hxl) (by rw [hl, hs]; omega)
  refine ⟨g a, ?_, by rw [hfg]; exact h2⟩
  show k.K W (f (g a)) cs
  rw [hfg]
  simpa using h1
/-- A field that stands for an array's element. -/
def af (e : TypeId) (i : Nat) : Field := { name := "", type := e, offset := i, embedded := false, tag := "", pkgPath := "", byteOffset := 0 }
theorem opens_array {P : Program} {t e : TypeId} {n : Nat} {α β : Type} {k : Kd α} {G : α → Prop} {f : β → α} (g : α → β) (hfg : ∀ a, f (g a) = a) (fs : List Field) (ht : P.underlying t = some (.array n e)) (hfs : fs = (List.range n).map (af e)) (he : P.cellsOf e = 1) (hs : P.cellsOf t = k.sz) (o : PartOpens P fs 0 k G) :
    Opens P t (Kd.iso k f) (fun b => G (f b)) := by
  refine ⟨fun {H enc W fuel cs x} hx => ?_⟩
  obtain ⟨xs, m, _, _, hl, hxl, hall⟩ := DataW.trod_array ht hx
  obtain ⟨a, h1, h2⟩ := o.get (cs := cs) (xs := xs) (fun i fl hf => by
    rw [hfs, List.getElem?_map] at hf
    by_cases hi : i < n
    · rw [List.getElem?_range hi] at hf
      obtain rfl := Option.some.inj hf
      have := hall i hi
      rw [he, Nat.mul_one] at this
      show DataW.trod enc P W 0 (fun _ => true) true m e ((cs.drop i).take (P.cellsOf e)) = xs[i]?
      rw [he]; exact this
    · rw [List.getElem?_eq_none (by simpa using hi)] at hf; cases hf) (by rw [hfs]; simpa using hxl) (by rw [hl, hs]; omega)
  refine ⟨g a, ?_, by rw [hfg]; exact h2⟩
  show k.K W (f (g a)) cs
  rw [hfg]
  simpa using h1
theorem okWide_array {P : Program} {W : World} {r : _} {base : Nat} {t e : TypeId} {n : Nat} {v : Value} (ht : P.underlying t = some (.array n e)) (h : Value.okWide P W r base t v) : ∃ cs, v = .agg cs ∧ cs.size = P.cellsOf t := by
  simp only [Value.okWide, ht] at h
  obtain ⟨cs, h1, h2, _⟩ := h
  exact ⟨cs, h1, h2⟩
/-- An array of whole numbers that reads as told: its cells. -/
theorem array_ints {P : Program} {t e : TypeId} {n : Nat} {k : IntKind} {H : Type} {enc : TypeId × Value → H} {W : World} {base : Nat} {spare : Nat → Bool} {held : Bool} {fuel : Nat} {cs : List Value} {zs : List Int} {ps : List MemPlace}
    (ht : P.underlying t = some (.array n e)) (he : P.underlying e = some (.int k)) (hc : P.cellsOf e = 1) (hn : P.cellsOf t = n)
    (h : DataW.trod enc P W base spare held fuel t cs = some (.agg (zs.map fun z => .lit (.int k z)), ps)) : cs = zs.map fun z => .int k z := by
  obtain ⟨xs, m, _, hx, hl, hxl, hall⟩ := DataW.trod_array ht h
  have hz : zs.map (fun z => (DataW.lit (.int k z) : DataW H)) = xs.map (·.1) := by
    have := congrArg Prod.fst hx
    injection this
  have hzl : zs.length = n := by have := congrArg List.length hz; simp at this; omega
  apply List.ext_getElem?
  intro i
  by_cases hi : i < n
  · have h1 := hall i hi
    rw [hc, Nat.mul_one, List.getElem?_eq_getElem (by omega)] at h1
    obtain ⟨z, h2, h3, _⟩ := DataW.trod_int he h1
    have h4 : (zs.map (fun z => (DataW.lit (.int k z) : DataW H)))[i]? = (xs.map (·.1))[i]? := by rw [hz]
    rw [List.getElem?_map, List.getElem?_map, List.getElem?_eq_getElem (by omega), List.getElem?_eq_getElem (by omega), Option.map_some, Option.map_some, h3] at h4
    injection h4 with h4
    injection h4 with h4
    injection h4 with _ h4
    have h5 : cs[i]? = some (.int k z) := by
      have := congrArg (fun l => l[0]?) h2
      simpa using this
    rw [h5, List.getElem?_map, List.getElem?_eq_getElem (by omega), Option.map_some, h4]
  · rw [List.getElem?_eq_none (by omega), List.getElem?_eq_none (by simp; omega)]
/-- A table of whole numbers at package level, read off its cells. -/
theorem table_C {k : IntKind} {W : World} {g : Nat} {zs : List Int} (hz : zs.length ≤ 9223372036854775807) (hc : ∀ i, i < zs.length → W.cell? ⟨g, i, none⟩ = some (.int k (zs.getD i 0))) : Kd.C (Kd.int k) W (some ⟨g, 0, none⟩) zs.length zs :=
  Kd.C_of_reads (h1 := fun _ => rfl) (d := 0) ⟨rfl, hz, fun _ => ⟨_, rfl, fun j hj => by rw [add_plain]; exact hc j hj⟩⟩
end Go.Proofs.YtkahpaipciooiabW.XOpen

/- The logic of a known part of memory, 17: a part D of what is known that belongs to one thing ('territory'): what is done to the thing leaves all else as it was. And a copy to a place. It holds for every program. -/
import Derived.Test.YtlkdbmoocajjlaaAlMap
namespace Go.Al
open Go

/-- From D within F to D' within F': what is known outside D stays, and D' grows by blocks alone that were not known. -/
structure Moves (D F D' F' : Heap) : Prop where
  inn : Ext D' F'
  out : ∀ c o, F c = some o → D c = none → F' c = some o
  new : ∀ c, D' c ≠ none → D c ≠ none ∨ F c = none
theorem Moves.refl {D F : Heap} (h : Ext D F) : Moves D F D F := ⟨h, fun _ _ h _ => h, fun _ h => .inl h⟩
theorem Moves.trans {D F D1 F1 D2 F2 : Heap} (h : Moves D F D1 F1) (k : Moves D1 F1 D2 F2) : Moves D F D2 F2 := by
  have hn : ∀ c o, F c = some o → D c = none → D1 c = none := fun c o hc hd => by
    cases e : D1 c with
    | none => rfl
    | some u =>
      rcases h.new c (by rw [e]; simp) with h1 | h1
      · exact absurd hd h1
      · rw [h1] at hc; cases hc
  refine ⟨k.inn, fun c o hc hd => k.out c o (h.out c o hc hd) (hn c o hc hd), fun c hc => ?_⟩
  rcases k.new c hc with h1 | h1
  · exact h.new c h1
  · cases e : F c with
    | none => exact .inr rfl
    | some o =>
      cases e2 : D c with
      | none => rw [h.out c o e e2] at h1; cases h1
      | some u => exact .inl (by simp)
theorem Moves.put {D F : Heap} (h : Ext D F) {b : Nat} (hb : D b ≠ none ∨ F b = none) (o : Obj) : Moves D F (D.put b o) (F.put b o) := by
  refine ⟨fun c u hc => ?_, fun c u hc hd => ?_, fun c hc => ?_⟩
  · by_cases e : c = b
    · subst e; rw [Heap.put_same] at hc ⊢; exact hc
    · rw [Heap.put_other _ _ e] at hc ⊢; exact h c u hc
  · have : c ≠ b := by
      rintro rfl
      rcases hb with hb | hb
      · exact hb hd
      · rw [hb] at hc; cases hc
    rw [Heap.put_other _ _ this]; exact hc
  · by_cases e : c = b
    · subst e; exact hb
    · rw [Heap.put_other _ _ e] at hc; exact .inl hc
/-- What is new, and belongs to nobody. -/
theorem Moves.ext {D F F' : Heap} (h : Ext D F) (k : Ext F F') : Moves D F D F' := ⟨h.trans k, fun c o hc _ => k c o hc, fun _ h => .inl h⟩
/-- What is new, taken into D. -/
def gain (D F F' : Heap) : Heap := fun c => match F c with | none => F' c | some _ => D c
theorem gain_old {D F F' : Heap} {c : Nat} {o : Obj} (h : F c = some o) : gain D F F' c = D c := by unfold gain; rw [h]
theorem gain_new {D F F' : Heap} {c : Nat} (h : F c = none) : gain D F F' c = F' c := by unfold gain; rw [h]
theorem gain_ext {D F F' : Heap} (h : Ext D F) : Ext D (gain D F F') := fun c o hc => by rw [gain_old (h _ _ hc)]; exact hc
theorem Moves.gain {D F F' : Heap} (h : Ext D F) (k : Ext F F') : Moves D F (gain D F F') F' := by
  refine ⟨fun c o hc => ?_, fun c o hc _ => k c o hc, fun c hc => ?_⟩
  · cases e : F c with
    | none => rw [gain_new e] at hc; exact hc
    | some u => rw [gain_old e] at hc; exact k _ _ (h _ _ hc)
  · cases e : F c with
    | none => exact .inr rfl
    | some u => rw [gain_old e] at hc; exact .inl hc
/-- .. where one block of D changes too. -/
theorem Moves.gain1 {D F F' : Heap} {b : Option Nat} (h : Ext D F) (k : Keeps F F' b) (hb : ∀ c, b = some c → D c ≠ none) : Moves D F (fun c => if b = some c then F' c else Al.gain D F F' c) F' := by
  refine ⟨fun c o hc => ?_, fun c o hc hd => k c o hc (fun e => hb c e hd), fun c hc => ?_⟩
  · by_cases e : b = some c
    · rw [if_pos e] at hc; exact hc
    · rw [if_neg e] at hc
      cases e2 : F c with
      | none => rw [gain_new e2] at hc; exact hc
      | some u => rw [gain_old e2] at hc; exact k _ _ (h _ _ hc) e
  · by_cases e : b = some c
    · exact .inl (hb c e)
    · rw [if_neg e] at hc
      cases e2 : F c with
      | none => exact .inr rfl
      | some u => rw [gain_old e2] at hc; exact .inl hc
/-- Two parts of memory that have nothing in common. -/
def Apart (D G : Heap) : Prop := ∀ c, D c ≠ none → G c = none
theorem Apart.symm {D G : Heap} (h : Apart D G) : Apart G D := fun c hc => by
  cases e : D c with
  | none => rfl
  | some o => exact absurd (h c (by rw [e]; simp)) hc
theorem Apart.none (G : Heap) : Apart (fun _ => none) G := fun _ h => absurd rfl h
theorem Moves.keep {D F D' F' G : Heap} (h : Moves D F D' F') (hG : Ext G F) (ha : Apart D G) : Ext G F' := fun c o hc => h.out c o (hG _ _ hc) (by
  cases e : D c with
  | none => rfl
  | some u => rw [ha c (by rw [e]; simp)] at hc; cases hc)
theorem Moves.apart {D F D' F' G : Heap} (h : Moves D F D' F') (hG : Ext G F) (ha : Apart D G) : Apart D' G := fun c hc => by
  rcases h.new c hc with h1 | h1
  · exact ha c h1
  · exact hG.none h1
theorem Apart.mono {D G D' : Heap} (h : Apart D G) (k : Ext D' D) : Apart D' G := fun c hc => h c (fun e => hc (k.none e))
theorem row_apart {F G : Heap} {A : Option Addr} {vs : List Value} (hr : RowAt G A vs) (hE : Ext G F) : RowAt F A vs := hr.mono hE
theorem Own.put {F : Heap} {s : Value} {e z n b : Nat} {vs : List Value} {o : Obj} (h : Own F s e z n vs) (hb : blk s ≠ some b) : Own (F.put b o) s e z n vs :=
  h.of_blk fun k u hk hu => by
    have hne : k ≠ b := fun e => by subst e; exact hb hk
    rw [Heap.put_other _ _ hne]; exact hu
theorem putL_take {vs cs : List Value} {off : Nat} (h : off + vs.length ≤ cs.length) : (putL cs off vs).take (off + vs.length) = cs.take off ++ vs := by
  rw [putL_eq vs cs off h, ← List.append_assoc]
  exact List.take_left' (by rw [List.length_append, List.length_take, Nat.min_eq_left (by omega)])
/-- A copy to a place of a row that is known. -/
theorem copy_to {P : Program} {T : Tab} (hT : TabOk P T) {o : Oper} {ev : Operand → Value} {F : Heap} {K : Value → Heap → Prop} {t u e e' : TypeId} {p q : Operand} {g off dl dc m : Nat} {y : Value} {ys : List Value} {cur : Array Value} {fz : Nat × Nat} {a1 a2 : Nat} {z1 : Option Value} {d : TD}
    (ho : o.op = .call ⟨.builtin .copy, #[p, q], #[t, u]⟩) (hp : ev p = .slice (some ⟨g, off, none⟩) dl dc) (hq : ev q = y) (h1 : T t = some ⟨a1, a2, .slice e, z1⟩) (h2 : T e = some d) (hd1 : d.size = 1)
    (hy : Src F 1 m y ys) (hg : F g = some (.cells cur e' fz)) (hfz : fz.2 ≤ fz.1) (hsz : off + dl ≤ cur.size) (hone : ∀ v ∈ ys, v.oneCell' = true)
    (hk : K (.int .i64 (min m dl : Nat)) (F.put g (.cells (putL cur.toList off (ys.take (min m dl))).toArray e' fz))) : OpK P o ev F K := by
  obtain ⟨hu1, _⟩ := hT _ _ h1
  obtain ⟨_, i, hi, hs, _, _⟩ := hT _ _ h2
  refine ⟨opW_v (s := Builtin.copy_ #[t, u] o.type #[.slice (some ⟨g, off, none⟩) dl dc, y]) (by simp [execOp, ho, resolve, invoke, builtin, hp, hq]) ?_⟩
  unfold Builtin.copy_
  simp only [List.getElem?_toArray, List.getElem?_cons_zero, List.getElem?_cons_succ]
  rw [wk_bind, wk_underlying hu1]
  dsimp only
  rw [wk_bind]
  refine hy.len _ ?_
  rw [show Nat.min m dl = min m dl from rfl, wk_bind, wk_sizeOf hi, hs, hd1, wk_bind]
  have hlen : (ys.take (min m dl)).length = min m dl := by rw [List.length_take, hy.1, Nat.mul_one]; omega
  have hcl : ∀ K' : Array Value → Heap → Prop, K' (ys.take (min m dl)).toArray F → wk P (Builtin.firstCells 1 (min m dl) y) F K' := fun K' hK => by
    rcases hy.2 with ⟨A, c, rfl, hr⟩ | ⟨s, rfl, _, hm, hys⟩
    · exact wk_firstCells (hr.take (min m dl)) (by rw [hlen, Nat.mul_one]) K' hK
    · show K' ((s.extract 0 (min m dl)).data.map fun b => .int .u8 b.toNat) F
      have : ((s.extract 0 (min m dl)).data.map fun b : UInt8 => Value.int .u8 b.toNat) = (ys.take (min m dl)).toArray := by
        apply Array.ext'
        rw [hys, ← List.map_take]
        simp
      rw [this]; exact hK
  refine hcl _ ?_
  simp only [wk_bind]
  refine wk_storeCells (a := ⟨g, off, none⟩) (e := e') (fz := fz) rfl (ys.take (min m dl)) 0 F cur _ hg (by rw [hlen]; show off + 0 + min m dl ≤ _; omega) (.inl hfz) (fun v hv => hone v (List.mem_of_mem_take hv)) ?_
  exact hk
/-- A look-up, when it is known what is found. -/
theorem op_lookup_at {P : Program} {T : Tab} (hT : TabOk P T) {o : Oper} {ev : Operand → Value} {F : Heap} {K : Value → Heap → Prop} {t kt et : TypeId} {x i : Operand} {ok : Bool} {m : Nat} {k : Int} {l : ML} {a1 a2 b1 b2 : Nat} {z1 z2 : Option Value} {d : TD} {z : Value} {g : Option Value}
    (ho : o.op = .lookup t x i ok) (hx : ev x = .map (some m)) (hi : ev i = .int .i64 k) (h1 : T t = some ⟨a1, a2, .map kt et, z1⟩) (h2 : T kt = some ⟨b1, b2, .int .i64, z2⟩) (h3 : T et = some d) (hz : d.zero = some z)
    (hm : MapAt F m l) (hg : getM l k = g) (hk : K (if ok then .tuple #[hitV z g, .bool g.isSome] else hitV z g) F) : OpK P o ev F K := by
  subst hg
  exact op_lookup hT ho hx hi h1 h2 h3 hz hm hk
end Go.Al

/- The logic of a known part of memory, 16: maps whose keys are whole numbers. It holds for every program. -/
import Derived.Test.YtlkdbmoocajjlaaAlRange
namespace Go.Al
open Go
set_option linter.unusedSimpArgs false

/-- What a map holds, in the order in which its keys came. -/
abbrev ML := List (Int × Value)
def mapL (es : List MapEntry) (l : ML) : Prop := es.map (fun e => (e.key, e.val)) = l.map (fun p => (Value.int .i64 p.1, p.2))
def findM (l : ML) (k : Int) : Nat → Option (Nat × Value)
  | i => match l with
    | [] => none
    | p :: l => if k == p.1 then some (i, p.2) else findM l k (i + 1)
def getM (l : ML) (k : Int) : Option Value := (findM l k 0).map (·.2)
def setM (l : ML) (k : Int) (v : Value) : ML := match findM l k 0 with | some (i, _) => l.set i (k, v) | none => l ++ [(k, v)]
theorem findM_cons (p : Int × Value) (l : ML) (k : Int) (i : Nat) : findM (p :: l) k i = if k == p.1 then some (i, p.2) else findM l k (i + 1) := rfl
theorem findNow_ints : ∀ (es : List MapEntry) (l : ML) (k : Int) (i : Nat), mapL es l → Instr.findNow (.int .i64) (.int .i64 k) es i = some (findM l k i) := by
  intro es
  induction es with
  | nil => intro l k i h; cases l with | nil => rfl | cons p l => cases h
  | cons e es ih =>
    intro l k i h
    cases l with
    | nil => cases h
    | cons p l =>
      unfold mapL at h
      rw [List.map_cons, List.map_cons] at h
      injection h with h1 h2
      injection h1 with h3 h4
      have ih := ih l k (i + 1) h2
      unfold Instr.findNow
      rw [h3, findM_cons]
      simp only [Instr.sameNow, if_true]
      cases hk : (k == p.1) with
      | true => simp [h4]
      | false => simpa using ih
theorem findM_some : ∀ (l : ML) (k : Int) (i j : Nat) (v : Value), findM l k i = some (j, v) → i ≤ j ∧ l[j - i]? = some (k, v) := by
  intro l
  induction l with
  | nil => intro k i j v h; cases h
  | cons p l ih =>
    intro k i j v h
    rw [findM_cons] at h
    split at h
    · next hk =>
      injection h with h
      injection h with h1 h2
      subst h1
      rw [beq_iff_eq] at hk
      refine ⟨Nat.le_refl _, ?_⟩
      rw [Nat.sub_self, hk, ← h2]
      rfl
    · obtain ⟨h1, h2⟩ := ih k (i + 1) j v h
      refine ⟨by omega, ?_⟩
      rw [show j - i = (j - (i + 1)) + 1 by omega]
      exact h2
theorem findM_shift : ∀ (l : ML) (k : Int) (i : Nat), (findM l k i).map (·.2) = getM l k := by
  intro l
  induction l with
  | nil => intro k i; rfl
  | cons p l ih =>
    intro k i
    unfold getM
    rw [findM_cons, findM_cons]
    split
    · rfl
    · rw [ih, ih]
theorem getM_cons (p : Int × Value) (l : ML) (k : Int) : getM (p :: l) k = if k = p.1 then some p.2 else getM l k := by
  have : getM (p :: l) k = (findM (p :: l) k 0).map (·.2) := rfl
  rw [this, findM_cons]
  by_cases h : k = p.1
  · rw [if_pos h, if_pos (by rw [beq_iff_eq]; exact h)]; rfl
  · rw [if_neg h, if_neg (by rw [beq_iff_eq]; exact h), findM_shift]
theorem getM_app : ∀ (l : ML) (k k' : Int) (v : Value), findM l k 0 = none → getM (l ++ [(k, v)]) k' = if k' = k then some v else getM l k' := by
  intro l
  induction l with
  | nil => intro k k' v _; rw [List.nil_append, getM_cons]
  | cons p l ih =>
    intro k k' v h
    rw [findM_cons] at h
    split at h
    · cases h
    · next hk =>
      have h' : findM l k 0 = none := by
        have := findM_shift l k (0 + 1)
        rw [h] at this
        cases e : findM l k 0 with
        | none => rfl
        | some q => unfold getM at this; rw [e] at this; cases this
      rw [List.cons_append, getM_cons, getM_cons, ih k k' v h']
      by_cases e1 : k' = p.1
      · have : ¬ k' = k := fun e => hk (by rw [← e, e1]; exact beq_self_eq_true _)
        rw [if_pos e1, if_neg this, if_pos e1]
      · rw [if_neg e1, if_neg e1]
theorem getM_set : ∀ (l : ML) (k k' : Int) (v : Value) (i : Nat) (u : Value), findM l k 0 = some (i, u) → getM (l.set i (k, v)) k' = if k' = k then some v else getM l k' := by
  intro l
  induction l with
  | nil => intro k k' v i u h; cases h
  | cons p l ih =>
    intro k k' v i u h
    rw [findM_cons] at h
    split at h
    · next hk =>
      injection h with h
      injection h with h1 h2
      subst h1
      rw [beq_iff_eq] at hk
      rw [List.set_cons_zero, getM_cons, getM_cons]
      dsimp only
      by_cases e1 : k' = k
      · rw [if_pos e1, if_pos e1]
      · rw [if_neg e1, if_neg e1, if_neg (by rw [← hk]; exact e1)]
    · next hk =>
      have h1 := (findM_some l k (0 + 1) i u h).1
      have h' : ∃ j, i = j + 1 ∧ findM l k 0 = some (j, u) := by
        refine ⟨i - 1, by omega, ?_⟩
        have hs : ∀ (l : ML) (a b : Nat) (q : Nat × Value), findM l k (a + b) = some q → ∃ r, findM l k a = some (r, q.2) ∧ q.1 = r + b := by
          intro l
          induction l with
          | nil => intro a b q h; cases h
          | cons p l ih =>
            intro a b q h
            rw [findM_cons] at h ⊢
            split at h
            · next hk => injection h with h; rw [if_pos hk, ← h]; exact ⟨a, rfl, rfl⟩
            · next hk =>
              rw [if_neg hk]
              rw [show a + b + 1 = (a + 1) + b by omega] at h
              exact ih (a + 1) b q h
        obtain ⟨r, h2, h3⟩ := hs l 0 1 (i, u) h
        rw [h2]
        have : i - 1 = r := by dsimp only at h3; omega
        rw [this]
      obtain ⟨j, rfl, h'⟩ := h'
      rw [List.set_cons_succ, getM_cons, getM_cons, ih k k' v j u h']
      by_cases e1 : k' = p.1
      · have : ¬ k' = k := fun e => hk (by rw [← e, e1]; exact beq_self_eq_true _)
        rw [if_pos e1, if_neg this, if_pos e1]
      · rw [if_neg e1, if_neg e1]
theorem getM_setM (l : ML) (k k' : Int) (v : Value) : getM (setM l k v) k' = if k' = k then some v else getM l k' := by
  unfold setM
  split
  · next i u h => exact getM_set l k k' v i u h
  · next h => exact getM_app l k k' v h
theorem getM_nil (k : Int) : getM [] k = none := rfl

/-- A map in memory. -/
def MapO (o : Obj) (l : ML) : Prop := ∃ es clock, o = .map es clock ∧ mapL es.toList l
def MapAt (F : Heap) (m : Nat) (l : ML) : Prop := ∃ o, F m = some o ∧ MapO o l
theorem MapAt.mono {F G : Heap} {m : Nat} {l : ML} (h : MapAt F m l) (hE : Ext F G) : MapAt G m l := by
  obtain ⟨o, h1, h2⟩ := h
  exact ⟨o, hE _ _ h1, h2⟩
theorem MapAt.put {F : Heap} {m : Nat} {o : Obj} {l : ML} (h : MapO o l) : MapAt (F.put m o) m l := ⟨o, Heap.put_same _ _ _, h⟩
theorem MapAt.other {F : Heap} {m b : Nat} {o : Obj} {l : ML} (h : MapAt F m l) (hne : m ≠ b) : MapAt (F.put b o) m l := by
  obtain ⟨u, h1, h2⟩ := h
  exact ⟨u, (Heap.put_other _ _ hne).trans h1, h2⟩
theorem MapAt.keeps {F F' : Heap} {m : Nat} {b : Option Nat} {l : ML} (h : MapAt F m l) (hk : Keeps F F' b) (hne : b ≠ some m) : MapAt F' m l := by
  obtain ⟨u, h1, h2⟩ := h
  exact ⟨u, hk _ _ h1 hne, h2⟩
theorem MapAt.not_cells {F : Heap} {m b : Nat} {l : ML} {c : Array Value} {e : TypeId} {fz : Nat × Nat} (h : MapAt F m l) (hb : F b = some (.cells c e fz)) : m ≠ b := by
  rintro rfl
  obtain ⟨o, h1, es, cl, rfl, _⟩ := h
  rw [h1] at hb; cases hb
theorem MapAt.not_own {F : Heap} {m : Nat} {l : ML} {s : Value} {e z n : Nat} {vs : List Value} (h : MapAt F m l) (hs : Own F s e z n vs) : blk s ≠ some m := by
  intro e
  rcases hs.2 with ⟨h1, _⟩ | ⟨b, c, cs, h1, ⟨fz, h2, h3⟩, h4⟩
  · subst h1; cases e
  · subst h1
    obtain rfl : b = m := Option.some.inj e
    exact (h.not_cells h2) rfl
theorem wk_checkKey {P : Program} {F : Heap} {t : TypeId} {k : IntKind} (h : P.underlying t = some (.int k)) (b : Bool) (n : Nat) (v : Value) (K : Unit → Heap → Prop) (hk : K () F) : wk P (Instr.checkKey b (n + 1) t v) F K := by
  unfold Instr.checkKey
  rw [wk_bind, wk_underlying h]
  exact hk
theorem op_makeMap {P : Program} {o : Oper} {ev : Operand → Value} {F : Heap} {K : Value → Heap → Prop} {t : TypeId} (ho : o.op = .makeMap t none) (hk : ∀ b, F b = none → K (.map (some b)) (F.put b (.map #[] 0))) : OpK P o ev F K := by
  refine ⟨opW_v (s := Instr.makeMap t none) (by simp only [execOp, ho, Option.map_none]) ?_⟩
  unfold Instr.makeMap
  simp only [wk_bind, wk_pure]
  exact fun b hb => hk b hb
/-- What a look-up hands back. -/
def hitV (z : Value) : Option Value → Value
  | some v => v
  | none => z
theorem op_lookup {P : Program} {T : Tab} (hT : TabOk P T) {o : Oper} {ev : Operand → Value} {F : Heap} {K : Value → Heap → Prop} {t kt et : TypeId} {x i : Operand} {ok : Bool} {m : Nat} {k : Int} {l : ML} {a1 a2 b1 b2 : Nat} {z1 z2 : Option Value} {d : TD} {z : Value}
    (ho : o.op = .lookup t x i ok) (hx : ev x = .map (some m)) (hi : ev i = .int .i64 k) (h1 : T t = some ⟨a1, a2, .map kt et, z1⟩) (h2 : T kt = some ⟨b1, b2, .int .i64, z2⟩) (h3 : T et = some d) (hz : d.zero = some z)
    (hm : MapAt F m l) (hk : K (if ok then .tuple #[hitV z (getM l k), .bool (getM l k).isSome] else hitV z (getM l k)) F) : OpK P o ev F K := by
  obtain ⟨hu1, _⟩ := hT _ _ h1
  obtain ⟨hu2, _⟩ := hT _ _ h2
  obtain ⟨_, ii, hii, _, _, hze⟩ := hT _ _ h3
  obtain ⟨_, hF, es, cl, rfl, hes⟩ := hm
  refine ⟨opW_v (s := Instr.lookup t (ev x) (ev i) ok) (by simp only [execOp, ho]) ?_⟩
  rw [hx, hi]
  unfold Instr.lookup
  rw [wk_bind, wk_underlying hu1]
  dsimp only
  simp only [wk_bind]
  refine ⟨_, hF, (by intro c e fz h; cases h), ?_⟩
  rw [wk_pure']
  simp only [wk_bind, wk_pure]
  refine wk_checkKey hu2 _ _ _ _ ?_
  unfold Instr.findKey
  rw [wk_bind, wk_underlying hu2, findNow_ints es.toList l k 0 hes]
  simp only [wk_pure]
  unfold getM at hk
  cases hf : findM l k 0 with
  | none =>
    rw [hf] at hk
    simp only [wk_bind, wk_zeroValue hii (hze.trans hz), wk_pure]
    exact hk
  | some q =>
    rw [hf] at hk
    simp only [wk_bind, wk_pure]
    exact hk
theorem mapL_get {es : List MapEntry} {l : ML} (h : mapL es l) {i : Nat} {k : Int} {v : Value} (hl : l[i]? = some (k, v)) : ∃ e, es[i]? = some e ∧ e.key = .int .i64 k ∧ e.val = v := by
  have := congrArg (fun x => x[i]?) h
  simp only [List.getElem?_map, hl, Option.map_some] at this
  obtain ⟨e, h1, h2⟩ := Option.map_eq_some_iff.1 this
  injection h2 with h3 h4
  exact ⟨e, h1, h3, h4⟩
theorem op_mapUpdate {P : Program} {T : Tab} (hT : TabOk P T) {o : Oper} {ev : Operand → Value} {F : Heap} {K : Value → Heap → Prop} {t kt et : TypeId} {x i y : Operand} {m : Nat} {k : Int} {v : Value} {l : ML} {a1 a2 b1 b2 : Nat} {z1 z2 : Option Value}
    (ho : o.op = .mapUpdate t x i y) (hx : ev x = .map (some m)) (hi : ev i = .int .i64 k) (hy : ev y = v) (h1 : T t = some ⟨a1, a2, .map kt et, z1⟩) (h2 : T kt = some ⟨b1, b2, .int .i64, z2⟩)
    (hm : MapAt F m l) (hk : ∀ o', MapO o' (setM l k v) → K undef (F.put m o')) : OpK P o ev F K := by
  obtain ⟨hu1, _⟩ := hT _ _ h1
  obtain ⟨hu2, _⟩ := hT _ _ h2
  obtain ⟨_, hF, es, cl, rfl, hes⟩ := hm
  refine ⟨opW_wk ?_⟩
  simp only [execOp, ho, hx, hi, hy]
  unfold Instr.mapUpdate
  simp only [wk_bind]
  rw [wk_underlying hu1]
  dsimp only
  simp only [wk_bind]
  refine ⟨_, hF, (by intro c e fz h; cases h), ?_⟩
  rw [wk_pure']
  dsimp only
  simp only [wk_bind]
  refine wk_checkKey hu2 _ _ _ _ ?_
  unfold Instr.findKey
  rw [wk_bind, wk_underlying hu2, findNow_ints es.toList l k 0 hes]
  simp only [wk_pure]
  unfold setM at hk
  have hset : ∀ (o' : Obj) (K' : Unit → Heap → Prop), K' () (F.put m o') → wk P (setObj m o') F K' := fun o' K' h => ⟨⟨_, hF, (by intro c e fz h; cases h), (by intro d h; cases h)⟩, h⟩
  cases hf : findM l k 0 with
  | none =>
    rw [hf] at hk
    dsimp only at hk ⊢
    refine hset _ _ ?_
    refine hk _ ⟨_, _, rfl, ?_⟩
    unfold mapL at hes ⊢
    simp [hes]
  | some q =>
    obtain ⟨j, u⟩ := q
    rw [hf] at hk
    obtain ⟨_, hj⟩ := findM_some l k 0 j u hf
    rw [Nat.sub_zero] at hj
    obtain ⟨e, he1, he2, he3⟩ := mapL_get hes hj
    have he1' : es[j]? = some e := by simpa using he1
    dsimp only at hk ⊢
    rw [he1']
    simp only [Option.map_some, Option.getD_some, he2, wk_bind]
    unfold Instr.keyThatStays
    rw [if_pos (by simp [Instr.sameBits])]
    simp only [wk_pure]
    refine hset _ _ ?_
    refine hk _ ⟨_, _, rfl, ?_⟩
    unfold mapL at hes ⊢
    apply List.ext_getElem?
    intro n
    have hn := congrArg (fun x => x[n]?) hes
    simp only [List.getElem?_map, Array.toList_modify, List.getElem?_modify, List.getElem?_set] at hn ⊢
    by_cases hjn : j = n
    · subst hjn
      have hlt : j < l.length := (List.getElem?_eq_some_iff.1 hj).1
      simp [he1, hlt]
    · simp only [hjn, if_false, id_eq]
      simpa using hn
theorem op_clear {P : Program} {T : Tab} (hT : TabOk P T) {o : Oper} {ev : Operand → Value} {F : Heap} {K : Value → Heap → Prop} {t kt et : TypeId} {x : Operand} {m : Nat} {l : ML} {a1 a2 : Nat} {z1 : Option Value}
    (ho : o.op = .call ⟨.builtin .clear, #[x], #[t]⟩) (hx : ev x = .map (some m)) (h1 : T t = some ⟨a1, a2, .map kt et, z1⟩) (hm : MapAt F m l) (hk : ∀ o', MapO o' [] → K (.tuple #[]) (F.put m o')) : OpK P o ev F K := by
  obtain ⟨hu1, _⟩ := hT _ _ h1
  obtain ⟨_, hF, es, cl, rfl, hes⟩ := hm
  refine ⟨opW_v (s := Builtin.clear_ #[t] o.type #[.map (some m)]) (by simp [execOp, ho, resolve, invoke, builtin, hx]) ?_⟩
  unfold Builtin.clear_
  simp only [List.getElem?_toArray, List.getElem?_cons_zero]
  rw [wk_bind, wk_underlying hu1]
  simp only [wk_bind]
  refine ⟨_, hF, (by intro c e fz h; cases h), ?_⟩
  rw [wk_pure']
  refine ⟨⟨_, hF, (by intro c e fz h; cases h), (by intro d h; cases h)⟩, ?_⟩
  exact hk _ ⟨#[], cl, rfl, rfl⟩
end Go.Al

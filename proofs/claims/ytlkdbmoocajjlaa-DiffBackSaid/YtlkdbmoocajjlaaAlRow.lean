/- The logic of a known part of memory, 8: rows: what a slice reads as; rows of a call's own; append, copy, make. It holds for every program. -/
import Derived.Test.YtlkdbmoocajjlaaAlDraw
import Derived.Laws.Append
namespace Go.Al
open Go

theorem add_block (a : Addr) (i : Nat) : (a.add i).block = a.block := by unfold Addr.add; split <;> rfl
theorem add_plain (b o i : Nat) : (⟨b, o, none⟩ : Addr).add i = ⟨b, o + i, none⟩ := by
  unfold Addr.add
  split
  · next h => subst h; rfl
  · rfl
theorem add_add (a : Addr) (i j : Nat) : (a.add i).add j = a.add (i + j) := by
  unfold Addr.add
  by_cases hi : i = 0
  · subst hi; simp
  · by_cases hj : j = 0
    · subst hj; simp [hi]
    · simp [hi, hj, Nat.add_assoc]
theorem Heap.cell_at {F : Heap} {b : Nat} {c : Array Value} {e : TypeId} {fz : Nat × Nat} (hb : F b = some (.cells c e fz)) (i : Nat) : F.cell? ⟨b, i, none⟩ = c[i]? := by
  unfold Heap.cell?
  rw [hb]
  rfl
/-- The cells from A on read as vs. -/
def RowAt (F : Heap) (A : Option Addr) (vs : List Value) : Prop := ∀ j v, vs[j]? = some v → ∃ a, A = some a ∧ F.cell? (a.add j) = some v
theorem RowAt.mono {F G : Heap} {A : Option Addr} {vs : List Value} (h : RowAt F A vs) (hF : Ext F G) : RowAt G A vs := fun j v hj => by
  obtain ⟨a, h1, h2⟩ := h j v hj
  exact ⟨a, h1, hF.cell h2⟩
theorem RowAt.nil (F : Heap) (A : Option Addr) : RowAt F A [] := fun j v hj => by simp at hj
theorem RowAt.cell {F : Heap} {a : Addr} {vs : List Value} (h : RowAt F (some a) vs) {j : Nat} {v : Value} (hj : vs[j]? = some v) : F.cell? (a.add j) = some v := by
  obtain ⟨b, h1, h2⟩ := h j v hj
  cases h1
  exact h2
theorem RowAt.drop {F : Heap} {a : Addr} {vs : List Value} (h : RowAt F (some a) vs) (k : Nat) : RowAt F (some (a.add k)) (vs.drop k) := fun j v hj => by
  rw [List.getElem?_drop] at hj
  exact ⟨_, rfl, by rw [add_add]; exact h.cell hj⟩
theorem RowAt.take {F : Heap} {A : Option Addr} {vs : List Value} (h : RowAt F A vs) (k : Nat) : RowAt F A (vs.take k) := fun j v hj => by
  rw [List.getElem?_take] at hj
  split at hj
  · exact h j v hj
  · cases hj
theorem RowAt.some {F : Heap} {A : Option Addr} {vs : List Value} (h : RowAt F A vs) (h0 : 0 < vs.length) : ∃ a, A = some a := by
  obtain ⟨a, h1, _⟩ := h 0 vs[0] (by simp [h0])
  exact ⟨a, h1⟩

def blk : Value → Option Nat
  | .slice (some a) _ _ => some a.block
  | _ => none
/-- A block whose cells may be written. -/
def Live (F : Heap) (b : Nat) (cs : Array Value) (e : TypeId) : Prop := ∃ fz, F b = some (.cells cs e fz) ∧ (fz.2 ≤ fz.1 ∨ cs.size ≤ fz.1)
theorem Live.put (F : Heap) (b : Nat) (cs : Array Value) (e : TypeId) : Live (F.put b (.cells cs e)) b cs e := ⟨_, Heap.put_same _ _ _, .inl (Nat.le_refl _)⟩
/-- s is a row of the call's own: n elements of z cells each, of type e, that hold vs; there may be room behind them. -/
def Own (F : Heap) (s : Value) (e z n : Nat) (vs : List Value) : Prop :=
  vs.length = n * z ∧ ((s = .slice none 0 0 ∧ n = 0) ∨ ∃ b c cs, s = .slice (some ⟨b, 0, none⟩) n c ∧ Live F b cs e ∧ cs.size = c * z ∧ n ≤ c ∧ cs.toList.take (n * z) = vs)
/-- .. and it wasn't there in F0. -/
structure Mine (F0 F : Heap) (s : Value) (e z n : Nat) (vs : List Value) : Prop where
  own : Own F s e z n vs
  fresh : ∀ b, blk s = some b → F0 b = none
  ext : Ext F0 F
theorem Mine.mono {F0 F G : Heap} {s : Value} {e z n : Nat} {vs : List Value} (h : Mine F0 F s e z n vs) (hF : Ext F G) : Mine F0 G s e z n vs := by
  refine ⟨⟨h.own.1, ?_⟩, h.fresh, h.ext.trans hF⟩
  rcases h.own.2 with h1 | ⟨b, c, cs, h1, h2, h3⟩
  · exact .inl h1
  · exact .inr ⟨b, c, cs, h1, ⟨h2.choose, hF _ _ h2.choose_spec.1, h2.choose_spec.2⟩, h3⟩
theorem Mine.nil (F0 F : Heap) (e z : Nat) (h : Ext F0 F) : Mine F0 F (.slice none 0 0) e z 0 [] := ⟨⟨by simp, .inl ⟨rfl, rfl⟩⟩, fun b hb => (by cases hb), h⟩
/-- What a row of the call's own reads as. -/
theorem Own.row {F : Heap} {s : Value} {e z n : Nat} {vs : List Value} (h : Own F s e z n vs) : ∃ A c, s = .slice A n c ∧ n ≤ c ∧ RowAt F A vs := by
  obtain ⟨hl, h⟩ := h
  rcases h with ⟨rfl, rfl⟩ | ⟨b, c, cs, rfl, ⟨fz, hb, _⟩, hc, hn, ht⟩
  · have : vs = [] := List.eq_nil_of_length_eq_zero (by simpa using hl)
    subst this
    exact ⟨_, _, rfl, Nat.le_refl _, RowAt.nil _ _⟩
  · refine ⟨_, _, rfl, hn, fun j v hj => ⟨_, rfl, ?_⟩⟩
    rw [add_plain, Heap.cell_at hb, Nat.zero_add]
    have hlt : j < n * z := by rw [← hl]; exact (List.getElem?_eq_some_iff.1 hj).1
    rw [← ht, List.getElem?_take, if_pos hlt] at hj
    simpa using hj
/-- F but for one block. -/
def Keeps (F F' : Heap) (b : Option Nat) : Prop := ∀ c o, F c = some o → b ≠ some c → F' c = some o
theorem Keeps.ext {F0 F F' : Heap} {b : Option Nat} (h : Keeps F F' b) (h0 : Ext F0 F) (hb : ∀ k, b = some k → F0 k = none) : Ext F0 F' := fun c o hc => by
  refine h c o (h0 c o hc) fun e => ?_
  rw [hb c e] at hc; cases hc
theorem Keeps.put (F : Heap) (b : Nat) (o : Obj) : Keeps F (F.put b o) (some b) := fun c u hc hne => by
  rw [Heap.put_other F o (fun e => hne (by rw [e]))]; exact hc
theorem Ext.keeps {F F' : Heap} (h : Ext F F') (b : Option Nat) : Keeps F F' b := fun c o hc _ => h c o hc
theorem Ext.new {F : Heap} {b : Nat} (hb : F b = none) (o : Obj) : Ext F (F.put b o) := (Ext.refl F).put hb o

theorem putL_eq : ∀ (vs cs : List Value) (off : Nat), off + vs.length ≤ cs.length → putL cs off vs = cs.take off ++ (vs ++ cs.drop (off + vs.length)) := by
  intro vs
  induction vs with
  | nil => intro cs off h; simp [putL]
  | cons v vs ih =>
    intro cs off h
    rw [List.length_cons] at h
    rw [putL, ih _ _ (by rw [List.length_set]; omega)]
    have h1 : (cs.set off v).take (off + 1) = cs.take off ++ [v] := by
      rw [List.take_set, List.set_eq_take_append_cons_drop]
      rw [if_pos (by rw [List.length_take]; omega)]
      simp only [List.take_take, List.drop_take]
      rw [Nat.min_eq_left (by omega)]
      simp
    have h2 : (cs.set off v).drop (off + 1 + vs.length) = cs.drop (off + (vs.length + 1)) := by
      rw [List.drop_set, if_pos (by omega), show off + 1 + vs.length = off + (vs.length + 1) by omega]
    rw [h1, h2]
    simp
theorem wk_loadCells_at {P : Program} {F : Heap} {a : Addr} : ∀ (vs : List Value) (i : Nat) (acc : Array Value) (K : Array Value → Heap → Prop), (∀ j v, vs[j]? = some v → F.cell? (a.add (i + j)) = some v) → K (acc ++ vs.toArray) F → wk P (loadCellsFrom a i vs.length acc) F K := by
  intro vs
  induction vs with
  | nil => intro i acc K _ h; simpa [loadCellsFrom, wk_pure] using h
  | cons v vs ih =>
    intro i acc K hc h
    rw [List.length_cons, loadCellsFrom, wk_bind]
    refine wk_load (by have := hc 0 v rfl; simpa using this) _ ?_
    refine ih (i + 1) _ K (fun j u hj => by have := hc (j + 1) u (by simpa using hj); rwa [show i + (j + 1) = i + 1 + j by omega] at this) ?_
    have : acc.push v ++ vs.toArray = acc ++ (v :: vs).toArray := by apply Array.ext'; simp
    rw [this]; exact h
theorem wk_firstCells {P : Program} {F : Heap} {A : Option Addr} {z m n c : Nat} {vs : List Value} (h : RowAt F A vs) (hl : vs.length = m * z) (K : Array Value → Heap → Prop) (hk : K vs.toArray F) : wk P (Builtin.firstCells z m (.slice A n c)) F K := by
  cases A with
  | none =>
    have : vs = [] := by
      cases vs with
      | nil => rfl
      | cons v vs => obtain ⟨a, h1, _⟩ := h 0 v rfl; cases h1
    subst this
    exact hk
  | some a =>
    show wk P (loadCells a (m * z)) F K
    unfold loadCells
    rw [← hl]
    exact wk_loadCells_at vs 0 #[] K (fun j v hj => by simpa using h.cell hj) (by simpa using hk)
theorem wk_choose {P : Program} {F : Heap} {q : Question} {K : Nat → Heap → Prop} (h : ∀ n, (q.forced = true → n = 0) → (q.forced = false → ∃ t, n = q.cut t) → K n F) : wk P (choose q) F K := fun n h1 h2 => h n h1 h2

/-- What an append takes: the cells of its second operand. -/
def Src (F : Heap) (z m : Nat) (y : Value) (ys : List Value) : Prop :=
  ys.length = m * z ∧ ((∃ A c, y = .slice A m c ∧ RowAt F A ys) ∨ (∃ s, y = .string s ∧ z = 1 ∧ m = s.size ∧ ys = s.data.toList.map fun b => .int .u8 b.toNat))
theorem Src.len {P : Program} {F : Heap} {z m : Nat} {y : Value} {ys : List Value} (h : Src F z m y ys) (K : Nat → Heap → Prop) (hk : K m F) : wk P (Builtin.lenOf y) F K := by
  rcases h.2 with ⟨A, c, rfl, _⟩ | ⟨s, rfl, _, rfl, _⟩
  · exact hk
  · exact hk
theorem Src.cells {P : Program} {F : Heap} {z m : Nat} {y : Value} {ys : List Value} (h : Src F z m y ys) (K : Array Value → Heap → Prop) (hk : K ys.toArray F) : wk P (Builtin.firstCells z m y) F K := by
  rcases h.2 with ⟨A, c, rfl, hr⟩ | ⟨s, rfl, rfl, rfl, rfl⟩
  · exact wk_firstCells hr h.1 K hk
  · show K ((s.extract 0 s.size).data.map fun b => .int .u8 b.toNat) F
    have : ((s.extract 0 s.size).data.map fun b : UInt8 => Value.int .u8 b.toNat) = (s.data.toList.map fun b : UInt8 => Value.int .u8 b.toNat).toArray := by
      apply Array.ext'
      simp
    rw [this]; exact hk
theorem zeroCells_size (z : Array Value) (n : Nat) : (Builtin.zeroCells z n).size = n * z.size := by simp [Builtin.zeroCells]
theorem wk_append {P : Program} {T : Tab} (hT : TabOk P T) {F : Heap} {t u ty : TypeId} {e : TypeId} {tsz tb : Nat} {tz : Option Value} {d : TD} {s y : Value} {n m : Nat} {xs ys : List Value} {K : Value → Heap → Prop}
    (ht : T t = some ⟨tsz, tb, .slice e, tz⟩) (he : T e = some d) (hu : ∃ du, T u = some du ∧ ∀ k, du.desc ≠ .int k) (hz : ∃ zv, d.zero = some zv ∧ zv.cells.size = d.size) (hb0 : 0 < d.bytes)
    (hs : Own F s e d.size n xs) (hy : Src F d.size m y ys) (hone : ∀ v ∈ ys, v.oneCell' = true) (hlim : 2 * (n + m) * d.bytes ≤ 281474976710656)
    (hk : ∀ s' F', Own F' s' e d.size (n + m) (xs ++ ys) → Keeps F F' (blk s) → (∀ b, blk s' = some b → blk s = some b ∨ F b = none) → K s' F') : wk P (Builtin.append_ #[t, u] ty #[s, y]) F K := by
  obtain ⟨hut, _⟩ := hT _ _ ht
  obtain ⟨_, i, hi, hsz, hby, hze⟩ := hT _ _ he
  obtain ⟨du, hdu, hni⟩ := hu
  obtain ⟨huu, _⟩ := hT _ _ hdu
  obtain ⟨zv, hzv, hzs⟩ := hz
  obtain ⟨A, c, rfl, hnc, hrow⟩ := hs.row
  have hlxs : xs.length = n * d.size := hs.1
  unfold Builtin.append_
  simp only [List.getElem?_toArray, List.getElem?_cons_zero, List.getElem?_cons_succ]
  rw [wk_bind, wk_underlying hut]
  dsimp only
  rw [wk_bind, wk_sizeOf hi, hsz, wk_bind]
  rw [wk_underlying huu, wk_bind, wk_pure]
  clear huu hdu
  generalize du.desc = dd at hni ⊢
  cases dd <;> first | exact absurd rfl (hni _) | skip
  all_goals
    clear hni
    dsimp only
    simp only [Bool.false_eq_true, if_false]
    rw [wk_bind]
    refine hy.len _ ?_
    by_cases hfit : n + m ≤ c
    · rw [if_pos hfit, wk_bind]
      simp only [Bool.not_false, if_true]
      refine hy.cells _ ?_
      rcases hs.2 with ⟨hnil, h0⟩ | ⟨b, c', cs, heq, ⟨fz, hb, hfz⟩, hcs, hle, htake⟩
      · injection hnil with h1 h2 h3
        subst h1; subst h0; subst h3
        have hm : m = 0 := by omega
        subst hm
        have hys : ys = [] := List.eq_nil_of_length_eq_zero (by simpa using hy.1)
        subst hys
        have hxs : xs = [] := List.eq_nil_of_length_eq_zero (by simpa using hlxs)
        subst hxs
        exact hk _ _ hs (fun _ _ h _ => h) (fun b hb => .inl hb)
      · injection heq with h1 h2 h3
        subst h1; subst h3
        have hl : 0 + n * d.size + ys.length ≤ cs.size := by rw [hcs, hy.1, Nat.zero_add, ← Nat.add_mul]; exact Nat.mul_le_mul_right _ hfit
        have hadd : (⟨b, 0, none⟩ : Addr).add (n * d.size) = ⟨b, n * d.size, none⟩ := by rw [add_plain, Nat.zero_add]
        simp only [wk_bind, hadd]
        refine wk_storeCells (a := ⟨b, n * d.size, none⟩) (e := e) (fz := fz) rfl ys 0 F cs _ hb (by simpa using hl) (hfz.imp id fun h => by show n * d.size + 0 + ys.length ≤ fz.1; omega) hone ?_
        refine hk _ _ ⟨by rw [List.length_append, hlxs, hy.1, Nat.add_mul], .inr ⟨b, c, _, rfl, ⟨fz, Heap.put_same _ _ _, hfz.imp id fun h => by simpa [length_putL] using h⟩, ?_, hfit, ?_⟩⟩ (Keeps.put F b _) (fun b' hb' => .inl hb')
        · show (putL cs.toList (n * d.size + 0) ys).toArray.size = _
          simpa [length_putL] using hcs
        · show (putL cs.toList (n * d.size + 0) ys).toArray.toList.take _ = _
          have hl' : n * d.size + ys.length ≤ cs.toList.length := by simpa using hl
          rw [Nat.add_zero, List.toList_toArray, putL_eq _ _ _ hl', htake, ← List.append_assoc, Nat.add_mul, ← hlxs, ← hy.1, ← List.length_append, List.take_left']
          rfl
    · rw [if_neg hfit]
      have hcn : c < n + m := by omega
      have hcap := nextslicecap_le (need := n + m) (old := c) (by omega)
      rw [wk_bind, wk_typeInfo hi]
      rw [if_neg (by rw [hby]; simp; omega)]
      rw [wk_bind, wk_typeInfo hi]
      rw [if_neg (by rw [hby]; have := Nat.mul_le_mul_right d.bytes hcap; omega)]
      rw [wk_bind]
      refine wk_choose fun nc _ hch => ?_
      obtain ⟨tt, rfl⟩ := hch rfl
      have hge : n + m ≤ Question.cut (.appendCap (n + m) c e) tt := by show n + m ≤ n + m + _; omega
      generalize Question.cut (.appendCap (n + m) c e) tt = nc at hge
      rw [wk_bind, wk_typeInfo hi, wk_bind, wk_askRoom, wk_bind]
      refine wk_firstCells hrow hlxs _ ?_
      rw [wk_bind]
      simp only [Bool.not_false, if_true]
      refine hy.cells _ ?_
      rw [wk_bind, wk_zeroValue hi (hze.trans hzv)]
      simp only [newRow, wk_bind, wk_pure]
      refine run_new ⟨fun b hb => ?_⟩
      refine hk _ _ ⟨by rw [List.length_append, hlxs, hy.1, Nat.add_mul], .inr ⟨b, nc, _, rfl, Live.put _ _ _ _, ?_, hge, ?_⟩⟩ ((Ext.new hb _).keeps _) (fun b' hb' => .inr ?_)
      · simp only [Array.size_append, List.size_toArray, zeroCells_size, hzs, hlxs, hy.1]
        rw [← Nat.add_mul, ← Nat.add_mul]
        congr 1
        omega
      · rw [Nat.add_mul, ← hlxs, ← hy.1, ← List.length_append, Array.toList_append, Array.toList_append, List.toList_toArray, List.toList_toArray]
        exact List.take_left' rfl
      · obtain rfl : b = b' := Option.some.inj hb'
        exact hb

/-- An append, as the walk meets it. -/
theorem append_own {P : Program} {T : Tab} (hT : TabOk P T) {o : Oper} {ev : Operand → Value} {F : Heap} {t u : TypeId} {p q : Operand} (ho : o.op = .call ⟨.builtin .append, #[p, q], #[t, u]⟩) {e : TypeId} {tsz tb : Nat} {tz : Option Value} {d : TD} {s y : Value} {n m : Nat} {xs ys : List Value} {K : Value → Heap → Prop}
    (hp : ev p = s) (hq : ev q = y) (ht : T t = some ⟨tsz, tb, .slice e, tz⟩) (he : T e = some d) (hu : ∃ du, T u = some du ∧ ∀ k, du.desc ≠ .int k) (hz : ∃ zv, d.zero = some zv ∧ zv.cells.size = d.size) (hb0 : 0 < d.bytes)
    (hs : Own F s e d.size n xs) (hy : Src F d.size m y ys) (hone : ∀ v ∈ ys, v.oneCell' = true) (hlim : 2 * (n + m) * d.bytes ≤ 281474976710656)
    (hk : ∀ s' F', Own F' s' e d.size (n + m) (xs ++ ys) → Keeps F F' (blk s) → (∀ b, blk s' = some b → blk s = some b ∨ F b = none) → K s' F') : OpK P o ev F K := by
  refine ⟨opW_v (s := Builtin.append_ #[t, u] o.type #[s, y]) (by simp [execOp, ho, resolve, invoke, builtin, hp, hq]) ?_⟩
  exact wk_append hT ht he hu hz hb0 hs hy hone hlim hk
/-- .. onto a row that wasn't there in F0. -/
theorem append_mine {P : Program} {T : Tab} (hT : TabOk P T) {o : Oper} {ev : Operand → Value} {F0 F : Heap} {t u : TypeId} {p q : Operand} (ho : o.op = .call ⟨.builtin .append, #[p, q], #[t, u]⟩) {e : TypeId} {tsz tb : Nat} {tz : Option Value} {d : TD} {s y : Value} {n m : Nat} {xs ys : List Value} {K : Value → Heap → Prop}
    (hp : ev p = s) (hq : ev q = y) (ht : T t = some ⟨tsz, tb, .slice e, tz⟩) (he : T e = some d) (hu : ∃ du, T u = some du ∧ ∀ k, du.desc ≠ .int k) (hz : ∃ zv, d.zero = some zv ∧ zv.cells.size = d.size) (hb0 : 0 < d.bytes)
    (hs : Mine F0 F s e d.size n xs) (hy : Src F d.size m y ys) (hone : ∀ v ∈ ys, v.oneCell' = true) (hlim : 2 * (n + m) * d.bytes ≤ 281474976710656)
    (hk : ∀ s' F', Mine F0 F' s' e d.size (n + m) (xs ++ ys) → Keeps F F' (blk s) → K s' F') : OpK P o ev F K := by
  refine append_own hT ho hp hq ht he hu hz hb0 hs.own hy hone hlim fun s' F' h1 h2 h3 => hk s' F' ⟨h1, fun b hb => ?_, h2.ext hs.ext hs.fresh⟩ h2
  rcases h3 b hb with h | h
  · exact hs.fresh b h
  · cases e0 : F0 b with
    | none => rfl
    | some o => rw [hs.ext b o e0] at h; cases h
/-- A row that was just made. -/
theorem mine_new {F0 F : Heap} {b e z n : Nat} {vs : List Value} (hF : Ext F0 F) (hb : F b = none) (hl : vs.length = n * z) : Mine F0 (F.put b (.cells vs.toArray e)) (.slice (some ⟨b, 0, none⟩) n n) e z n vs := by
  refine ⟨⟨hl, .inr ⟨b, n, _, rfl, Live.put _ _ _ _, by simpa using hl, Nat.le_refl _, ?_⟩⟩, fun k hk => ?_, hF.trans (Ext.new hb _)⟩
  · rw [List.toList_toArray, ← hl, List.take_length]
  · obtain rfl : b = k := Option.some.inj hk
    cases e0 : F0 b with
    | none => rfl
    | some o => rw [hF b o e0] at hb; cases hb
/-- An operation by what its run comes to. -/
theorem op_run {P : Program} {o : Oper} {ev : Operand → Value} {F F' : Heap} {s : Sem Value} {v : Value} {K : Value → Heap → Prop} (hs : execOp ev o = (do pure (.value (← s)))) (h : ∀ w, Has F w → ∃ w', s.run P w = .ok v w' ∧ Has F' w' ∧ Rest w w') (hk : K v F') : OpK P o ev F K := by
  refine ⟨fun w hw => ?_⟩
  obtain ⟨w', h1, h2, h3⟩ := h w hw
  refine ⟨.value v, w', F', ?_, h2, h3, hk⟩
  rw [hs]
  simp only [Sem.run_bind, h1, Result.andThen_ok, Sem.run_pure]

theorem load_step {F : Heap} {a : Addr} {K : Value → Prop} {v : Value} (h : F.cell? a = some v) (hk : K v) : LoadK F a K := ⟨⟨v, h, hk⟩⟩
theorem load_blk {F : Heap} {a : Addr} {K : Value → Prop} {v : Value} {c : Array Value} {e : TypeId} {fz : Nat × Nat} (hb : F a.block = some (.cells c e fz)) (hs : a.spot = none) (hv : c[a.off]? = some v) (hk : K v) : LoadK F a K := by
  refine ⟨⟨v, ?_, hk⟩⟩
  unfold Heap.cell?
  rw [hb]
  simp only [hs, Option.isSome_none, Bool.false_eq_true, if_false]
  exact hv
theorem store_blk {F : Heap} {a : Addr} {vs : List Value} {K : Value → Heap → Prop} {c : Array Value} {e : TypeId} {fz : Nat × Nat} (hb : F a.block = some (.cells c e fz)) (hs : a.spot = none) (hl : Nat.ble (a.off + vs.length) c.size = true) (hz : thawed fz a.off vs.length) (h1 : ∀ v ∈ vs, v.oneCell' = true) (hk : K undef (F.put a.block (.cells (putL c.toList a.off vs).toArray e fz))) : StoreK F a vs K :=
  ⟨⟨c, e, fz, hb, hs, Nat.le_of_ble_eq_true hl, hz, h1, hk⟩⟩
theorem Own.of_blk {F F' : Heap} {s : Value} {e z n : Nat} {vs : List Value} (h : Own F s e z n vs) (hk : ∀ k o, blk s = some k → F k = some o → F' k = some o) : Own F' s e z n vs := by
  refine ⟨h.1, ?_⟩
  rcases h.2 with h1 | ⟨b, c, cs, h1, h2, h3⟩
  · exact .inl h1
  · exact .inr ⟨b, c, cs, h1, ⟨h2.choose, hk b _ (by rw [h1]; rfl) h2.choose_spec.1, h2.choose_spec.2⟩, h3⟩
theorem Heap.put_put (F : Heap) (b : Nat) (o o' : Obj) : (F.put b o).put b o' = F.put b o' := by
  funext k
  simp only [Heap.put]
  split <;> rfl
theorem new_step {F : Heap} {o' : Obj} {K : Nat → Heap → Prop} (o : Obj) (ho : o' = o) (hk : ∀ b, F b = none → K b (F.put b o)) : NewK F o' K := by
  subst ho
  exact ⟨hk⟩
theorem store_step {F : Heap} {a : Addr} {vs : List Value} {K : Value → Heap → Prop} {e : TypeId} {fz : Nat × Nat} (b off : Nat) (c c' : Array Value) (ha : a = ⟨b, off, none⟩) (hb : F b = some (.cells c e fz)) (hc : (putL c.toList off vs).toArray = c') (hl : Nat.ble (off + vs.length) c.size = true) (hz : thawed fz off vs.length) (h1 : ∀ v ∈ vs, v.oneCell' = true)
    (hk : K undef (F.put b (.cells c' e fz))) : StoreK F a vs K := by
  subst ha
  subst hc
  exact ⟨⟨c, e, fz, hb, rfl, Nat.le_of_ble_eq_true hl, hz, h1, hk⟩⟩
/-- A builtin, by what its run comes to. -/
theorem op_builtin {P : Program} {o : Oper} {ev : Operand → Value} {F : Heap} {bi : Builtin} {args : Array Operand} {ts : Array TypeId} {K : Value → Heap → Prop} (ho : o.op = .call ⟨.builtin bi, args, ts⟩) (vs : List Value) (hvs : args.toList.map ev = vs) (F' : Heap) (s : Sem Value) (v : Value)
    (hb : ∀ cs, builtin bi ts o.type cs vs.toArray = (do pure (.value (← s)))) (h : ∀ w, Has F w → ∃ w', s.run P w = .ok v w' ∧ Has F' w' ∧ Rest w w') (hk : K v F') : OpK P o ev F K := by
  refine op_run (F' := F') (s := s) (v := v) ?_ h hk
  have hargs : args.map ev = vs.toArray := Array.toList_inj.1 (by simpa using hvs)
  simp only [execOp, ho, resolve, pure_bind, invoke, hargs, hb]
end Go.Al

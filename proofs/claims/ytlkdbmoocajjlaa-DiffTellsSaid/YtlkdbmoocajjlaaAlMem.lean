/- The logic of a known part of memory, 5: the operations that look at memory or make some; regions and statements told step by step. It holds for every program. -/
import Derived.Test.YtlkdbmoocajjlaaAlVal
namespace Go.Al
open Go

def cellsL : Value → List Value
  | .agg cs => cs.toList
  | v => [v]
theorem cells_toList (v : Value) : v.cells.toList = cellsL v := by cases v <;> rfl
/-- vs into cs from off on. -/
def putL (cs : List Value) (off : Nat) : List Value → List Value
  | [] => cs
  | v :: vs => putL (cs.set off v) (off + 1) vs
theorem length_putL (vs : List Value) : ∀ (cs : List Value) (off : Nat), (putL cs off vs).length = cs.length := by
  induction vs with
  | nil => intro cs off; rfl
  | cons v vs ih => intro cs off; rw [putL, ih, List.length_set]
def fillL (place : Nat → Option (Nat × Nat)) (cs : List Value) : List (Nat × Value) → Option (List Value)
  | [] => some cs
  | (i, v) :: rest =>
    match place i with
    | none => none
    | some (off, size) => bif Nat.beq (cellsL v).length size && Nat.ble (off + size) cs.length then fillL place (putL cs off (cellsL v)) rest else none
theorem foldl_put (vs : List Value) : ∀ (k : Nat) (cs : Array Value) (off : Nat),
    ((vs.zipIdx k).foldl (fun cs (p : Value × Nat) => cs.setIfInBounds (off + p.2) p.1) cs).toList = putL cs.toList (off + k) vs := by
  induction vs with
  | nil => intro k cs off; rfl
  | cons v vs ih =>
    intro k cs off
    rw [List.zipIdx_cons, List.foldl_cons, ih, putL, Nat.add_assoc]
    congr 1
    simp
theorem fill_eq {place : Nat → Option (Nat × Nat)} : ∀ (parts : List (Nat × Value)) (cs : Array Value) (l : List Value), fillL place cs.toList parts = some l → Instr.fill place cs parts = some l.toArray := by
  intro parts
  induction parts with
  | nil => intro cs l h; obtain rfl := Option.some.inj h; simp [Instr.fill]
  | cons p rest ih =>
    intro cs l h
    obtain ⟨i, v⟩ := p
    unfold fillL at h
    unfold Instr.fill
    cases hp : place i with
    | none => simp only [hp] at h; cases h
    | some os =>
      obtain ⟨off, size⟩ := os
      simp only [hp] at h ⊢
      cases hc : (Nat.beq (cellsL v).length size && Nat.ble (off + size) cs.toList.length) with
      | false => rw [hc] at h; cases h
      | true =>
        rw [hc, cond_true] at h
        obtain ⟨h1, h2⟩ := Bool.and_eq_true_iff.1 hc
        have h1 := Nat.eq_of_beq_eq_true h1
        have h2 := Nat.le_of_ble_eq_true h2
        have hsz : v.cells.size = size := by rw [← h1, ← cells_toList]; simp
        rw [if_neg (by rw [hsz]; simp; simpa using h2)]
        refine ih _ l ?_
        have := foldl_put (cellsL v) 0 cs off
        rw [Nat.add_zero] at this
        rw [← h]
        congr 1
        rw [← this, ← cells_toList, ← Array.foldl_toList, Array.toList_zipIdx]

/-- A test on a Bool that the walk parts at. -/
def CondK (b : Bool) (p q : Prop) : Prop := bif b then p else q
theorem CondK.yes {b : Bool} {p q : Prop} (h : CondK b p q) (e : b = true) : p := by subst e; exact h
theorem CondK.no {b : Bool} {p q : Prop} (h : CondK b p q) (e : b = false) : q := by subst e; exact h
theorem cond_split {b : Bool} {p q : Prop} (h : b = true → p) (k : b = false → q) : bif b then p else q := by
  cases b
  · exact k rfl
  · exact h rfl
/-- A call. -/
structure CallK (P : Program) (f : FuncId) (args : Array Value) (F : Heap) (K : Value → Heap → Prop) : Prop where
  out : wk P (callFunc f args) F (nextK P K)
theorem call_of {P : Program} {f : FuncId} {args : Array Value} {F : Heap} {R K : Value → Heap → Prop} (h : FnK P f args F R) (hk : ∀ v F', R v F' → K v F') : CallK P f args F K := by
  obtain ⟨fn, h1, h2, h3⟩ := h.1
  refine ⟨?_⟩
  simp only [callFunc, wk_bind, wk_program, h1, h2, h3, Bool.false_eq_true, if_false, wk_pure]
  exact h.mono hk
/-- Any other operation. -/
structure OpK (P : Program) (o : Oper) (ev : Operand → Value) (F : Heap) (K : Value → Heap → Prop) : Prop where
  out : opW P o ev F K
structure LoadK (F : Heap) (a : Addr) (K : Value → Prop) : Prop where
  out : ∃ v, F.cell? a = some v ∧ K v
structure LoadsK (F : Heap) (a : Addr) (n : Nat) (K : Value → Prop) : Prop where
  out : ∃ c e fz, F a.block = some (.cells c e fz) ∧ a.spot = none ∧ a.off + n ≤ c.size ∧ K (.agg (c.extract a.off (a.off + n)))
/-- What isn't frozen. -/
def thawed (fz : Nat × Nat) (off n : Nat) : Prop := fz.2 ≤ fz.1 ∨ off + n ≤ fz.1
structure StoreK (F : Heap) (a : Addr) (vs : List Value) (K : Value → Heap → Prop) : Prop where
  out : ∃ c e fz, F a.block = some (.cells c e fz) ∧ a.spot = none ∧ a.off + vs.length ≤ c.size ∧ thawed fz a.off vs.length ∧ (∀ v ∈ vs, v.oneCell' = true) ∧ K undef (F.put a.block (.cells (putL c.toList a.off vs).toArray e fz))
structure NewK (F : Heap) (o : Obj) (K : Nat → Heap → Prop) : Prop where
  out : ∀ b, F b = none → K b (F.put b o)

def placesK (T : Tab) (fs : List Field) (i : Nat) : Option (Nat × Nat) := match fs[i]? with | some f => (match T f.type with | some d => some (f.offset, d.size) | none => none) | none => none
def allT (T : Tab) : List Field → Bool
  | [] => true
  | f :: fs => hasT T f.type && allT T fs
def zcells (d : TD) : Option (List Value) := match d.zero with | some z => some (cellsL z) | none => none
def buildK (T : Tab) (t : TypeId) (parts : List (Nat × Value)) (K : Value → Prop) : Prop :=
  match T t with
  | some d => (match zcells d with
    | some z => (match d.desc with
      | .struct fs => bif allT T fs.toList then (match fillL (placesK T fs.toList) z parts with | some cs => K (.agg cs.toArray) | none => False) else False
      | .array _ e => bif hasT T e then (match fillL (fun i => some (i * sizeK T e, sizeK T e)) z parts with | some cs => K (.agg cs.toArray) | none => False) else False
      | _ => False)
    | none => False)
  | none => False
/-- n zeros. -/
def zerosL (z : List Value) : Nat → List Value
  | 0 => []
  | n + 1 => z ++ zerosL z n
def memK (P : Program) (T : Tab) (o : Oper) (ev : Operand → Value) (F : Heap) (K : Value → Heap → Prop) : Prop :=
  match o.op with
  | .load t a => (match T t, ev a with
    | some d, .pointer (some ad) => bif aggD d.desc then LoadsK F ad d.size (fun v => K v F) else LoadK F ad (fun v => K v F)
    | _, _ => False)
  | .store t a x => (match T t, ev a with
    | some d, .pointer (some ad) => bif Nat.beq (cellsL (ev x)).length d.size then StoreK F ad (cellsL (ev x)) K else False
    | _, _ => False)
  | .box e x => NewK F (.cells (cellsL (ev x)).toArray e) (fun b F' => K (.pointer (some ⟨b, 0, none⟩)) F')
  | .alloc e => (match T e with
    | some d => (match zcells d with | some z => NewK F (.cells z.toArray e) (fun b F' => K (.pointer (some ⟨b, 0, none⟩)) F') | none => False)
    | none => False)
  | .build t parts => buildK T t (parts.toList.map fun p => (p.1, ev p.2)) (fun v => K v F)
  | .buildSlice t n parts => (match T t with
    | some ⟨_, _, .slice e, _⟩ => (match T e with
      | some d => (match zcells d with
        | some z => bif Nat.beq z.length d.size && Nat.ble (n * d.size) 16777216 && Nat.blt 0 d.size then
            (match fillL (fun i => some (i * d.size, d.size)) (zerosL z n) (parts.toList.map fun p => (p.1, ev p.2)) with
              | some cs => NewK F (.cells cs.toArray e) (fun b F' => K (.slice (some ⟨b, 0, none⟩) n n) F')
              | none => False)
          else False
        | none => False)
      | none => False)
    | _ => False)
  | .call ⟨.value f, args, _⟩ => (match ev f with
    | .func (.func g) first captured => CallK P g (first.toList ++ args.toList.map ev ++ captured.toList).toArray F K
    | _ => False)
  | _ => OpK P o ev F K
def isVal : Op → Bool
  | .move _ | .assign _ | .pick .. | .binOp .. | .unOp .. | .convert .. | .extract .. | .indexAddr .. | .index .. | .fieldAddr .. | .field .. | .nilCheck _ | .makeInterface .. | .makeFunc .. | .slice .. => true
  | .call ⟨.builtin .len, _, _⟩ | .call ⟨.builtin .cap, _, _⟩ | .call ⟨.builtin .min, _, _⟩ | .call ⟨.builtin .max, _, _⟩ => true
  | _ => false
def stepK (P : Program) (T : Tab) (o : Oper) (ev : Operand → Value) (F : Heap) (K : Value → Heap → Prop) : Prop :=
  bif isVal o.op then valK T o.op ev (fun v => K v F) else memK P T o ev F K

theorem wk_loadCellsFrom {P : Program} {F : Heap} {a : Addr} {c : Array Value} {e : TypeId} {fz : Nat × Nat} (hb : F a.block = some (.cells c e fz)) (hs : a.spot = none) : ∀ (n i : Nat) (acc : Array Value) (K : Array Value → Heap → Prop),
    a.off + i + n ≤ c.size → K (acc ++ c.extract (a.off + i) (a.off + i + n)) F → wk P (loadCellsFrom a i n acc) F K := by
  intro n
  induction n with
  | zero =>
    intro i acc K hl h
    have e0 : acc ++ c.extract (a.off + i) (a.off + i + 0) = acc := by simp; omega
    rw [e0] at h
    exact h
  | succ n ih =>
    intro i acc K hl h
    rw [loadCellsFrom, wk_bind]
    have hlt : a.off + i < c.size := by omega
    have hc : F.cell? (a.add i) = some c[a.off + i] := by
      have h1 : (a.add i).block = a.block := by unfold Addr.add; split <;> rfl
      have h2 : (a.add i).spot = none := by unfold Addr.add; split <;> first | exact hs | rfl
      have h3 : (a.add i).off = a.off + i := by unfold Addr.add; split <;> simp_all
      unfold Heap.cell?
      rw [h1, hb]
      simp only [h2, h3, Option.isSome_none, Bool.false_eq_true, if_false]
      simp [hlt]
    refine wk_load hc _ ?_
    refine ih (i + 1) _ K (by omega) ?_
    have he : acc.push c[a.off + i] ++ c.extract (a.off + (i + 1)) (a.off + (i + 1) + n) = acc ++ c.extract (a.off + i) (a.off + i + (n + 1)) := by
      apply Array.ext'
      simp only [Array.toList_append, Array.toList_push, Array.toList_extract, List.append_assoc, List.extract_eq_take_drop]
      congr 1
      have h5 : c.toList.drop (a.off + i) = c[a.off + i] :: c.toList.drop (a.off + i + 1) := by
        rw [List.drop_eq_getElem_cons (by simpa using hlt)]; simp
      rw [h5, show a.off + i + (n + 1) - (a.off + i) = n + 1 by omega, List.take_succ_cons, show a.off + (i + 1) + n - (a.off + (i + 1)) = n by omega]
      rfl
    rw [he]
    exact h
theorem wk_storeCells {P : Program} {a : Addr} {e : TypeId} {fz : Nat × Nat} (hs : a.spot = none) : ∀ (vs : List Value) (i : Nat) (F : Heap) (c : Array Value) (K : Unit → Heap → Prop), F a.block = some (.cells c e fz) →
    a.off + i + vs.length ≤ c.size → (fz.2 ≤ fz.1 ∨ a.off + i + vs.length ≤ fz.1) → (∀ v ∈ vs, v.oneCell' = true) → K () (F.put a.block (.cells (putL c.toList (a.off + i) vs).toArray e fz)) → wk P (storeCells a vs i) F K := by
  intro vs
  induction vs with
  | nil =>
    intro i F c K hb hl hz h1 h
    have : F.put a.block (.cells (putL c.toList (a.off + i) []).toArray e fz) = F := by
      funext k
      simp only [Heap.put, putL]
      split
      · next hk => subst hk; rw [hb]
      · rfl
    rw [this] at h
    exact h
  | cons v vs ih =>
    intro i F c K hb hl hz h1 h
    rw [List.length_cons] at hl hz
    have e1 : (a.add i).block = a.block := by unfold Addr.add; split <;> rfl
    have e2 : (a.add i).spot = none := by unfold Addr.add; split <;> first | exact hs | rfl
    have e3 : (a.add i).off = a.off + i := by unfold Addr.add; split <;> simp_all
    have hlt : a.off + i < c.size := by omega
    rw [storeCells, wk_bind]
    refine ⟨h1 v (by simp), ⟨c[a.off + i], ?_⟩, ?_, ?_⟩
    · unfold Heap.cell?
      rw [e1, hb]
      simp only [e2, e3, Option.isSome_none, Bool.false_eq_true, if_false]
      simp [hlt]
    · unfold Heap.frozen?
      obtain ⟨lo, hi⟩ := fz
      rw [e1, hb]
      simp only [e3, Option.some.injEq, Bool.and_eq_false_imp, decide_eq_true_eq, decide_eq_false_iff_not]
      simp only at hz
      omega
    · have hset : F.setCell (a.add i) v = F.put a.block (.cells (c.setIfInBounds (a.off + i) v) e fz) := by
        have := Heap.setCell_of (F := F) (a := a.add i) (c := c) (e := e) (fz := fz) (by rw [e1]; exact hb) v
        rw [this, e1, e2, e3]
        rfl
      rw [hset]
      refine ih (i + 1) _ (c.setIfInBounds (a.off + i) v) K (Heap.put_same _ _ _) (by simp; omega) (by omega) (fun u hu => h1 u (by simp [hu])) ?_
      have hpp : ∀ o o' : Obj, (F.put a.block o).put a.block o' = F.put a.block o' := by
        intro o o'
        funext k
        simp only [Heap.put]
        split <;> rfl
      rw [hpp]
      have : putL (c.setIfInBounds (a.off + i) v).toList (a.off + (i + 1)) vs = putL c.toList (a.off + i) (v :: vs) := by
        rw [putL]; simp [Nat.add_assoc]
      rw [this]
      exact h

theorem wk_loadVar {P : Program} {T : Tab} (hT : TabOk P T) {t : TypeId} {d : TD} (ht : T t = some d) {F : Heap} {a : Addr} {K : Value → Heap → Prop}
    (h : bif aggD d.desc then LoadsK F a d.size (fun v => K v F) else LoadK F a (fun v => K v F)) : wk P (loadVar t a) F K := by
  obtain ⟨hu, i, hi, hs, _, _⟩ := hT _ _ ht
  unfold loadVar
  rw [wk_bind, wk_isAgg hu]
  cases ha : aggD d.desc with
  | true =>
    rw [ha, cond_true] at h
    obtain ⟨c, e, fz, hb, hsp, hl, hk⟩ := h.out
    simp only [if_true, wk_bind, wk_sizeOf hi, hs]
    refine wk_loadCellsFrom hb hsp d.size 0 #[] _ (by omega) ?_
    simpa [wk_pure] using hk
  | false =>
    rw [ha, cond_false] at h
    obtain ⟨v, hv, hk⟩ := h.out
    simp only [Bool.false_eq_true, if_false]
    exact wk_load hv _ hk
theorem wk_storeVar {P : Program} {T : Tab} (hT : TabOk P T) {t : TypeId} {d : TD} (ht : T t = some d) {F : Heap} {a : Addr} {x : Value} {K : Unit → Heap → Prop} (hn : (cellsL x).length = d.size)
    (h : StoreK F a (cellsL x) (fun _ F' => K () F')) : wk P (storeVar t a x) F K := by
  obtain ⟨hu, i, hi, hs, _, _⟩ := hT _ _ ht
  obtain ⟨c, e, fz, hb, hsp, hl, hz, h1, hk⟩ := h.out
  unfold storeVar
  have hsz : x.cells.size = i.size := by rw [hs, ← hn, ← cells_toList]; simp
  rw [wk_bind, wk_sizeOf hi, if_neg (by rw [hsz]; simp)]
  rw [cells_toList]
  exact wk_storeCells hsp (cellsL x) 0 F c K hb (by omega) (by unfold thawed at hz; omega) h1 (by simpa using hk)
theorem run_new {P : Program} {F : Heap} {o : Obj} {K : Nat → Heap → Prop} (h : NewK F o K) : wk P (newObj o) F K := fun b hb => h.out b hb
theorem wk_mapM {P : Program} {α β : Type} (f : α → Sem β) (g : α → β) (F : Heap) (hf : ∀ x K, wk P (f x) F K ↔ K (g x) F) : ∀ (l : List α) (K : List β → Heap → Prop), K (l.map g) F → wk P (l.mapM f) F K := by
  intro l
  induction l with
  | nil => intro K h; simpa [wk_pure] using h
  | cons x l ih =>
    intro K h
    rw [List.mapM_cons, wk_bind, hf, wk_bind]
    exact ih _ h
theorem allT_mem {T : Tab} : ∀ {fs : List Field}, allT T fs = true → ∀ f ∈ fs, ∃ d, T f.type = some d ∧ sizeK T f.type = d.size := by
  intro fs
  induction fs with
  | nil => intro _ f hf; cases hf
  | cons f fs ih =>
    intro h g hg
    simp only [allT, Bool.and_eq_true] at h
    rcases List.mem_cons.1 hg with rfl | hg
    · exact hasT_some h.1
    · exact ih h.2 g hg
theorem wk_mapM_mem {P : Program} {α β : Type} (f : α → Sem β) (g : α → β) (F : Heap) : ∀ (l : List α) (_ : ∀ x ∈ l, ∀ K, wk P (f x) F K ↔ K (g x) F) (K : List β → Heap → Prop), K (l.map g) F → wk P (l.mapM f) F K := by
  intro l
  induction l with
  | nil => intro _ K h; simpa [wk_pure] using h
  | cons x l ih =>
    intro hf K h
    rw [List.mapM_cons, wk_bind, hf x (by simp), wk_bind]
    exact ih (fun y hy => hf y (by simp [hy])) _ h
theorem buildK_sound {P : Program} {T : Tab} (hT : TabOk P T) {t : TypeId} {parts : Array (Nat × Value)} {F : Heap} {K : Value → Heap → Prop} (h : buildK T t parts.toList (fun v => K v F)) : wk P (Instr.build t parts) F K := by
  unfold buildK at h
  cases ht : T t with
  | none => rw [ht] at h; exact h.elim
  | some d =>
    rw [ht] at h
    obtain ⟨hu, i, hi, hs, hb, hz⟩ := hT _ _ ht
    dsimp only at h
    cases hzc : zcells d with
    | none => rw [hzc] at h; exact h.elim
    | some z =>
      rw [hzc] at h
      dsimp only at h
      obtain ⟨zv, hzv, hzl⟩ : ∃ zv, d.zero = some zv ∧ zv.cells.toList = z := by
        unfold zcells at hzc
        cases hd : d.zero with
        | none => rw [hd] at hzc; cases hzc
        | some zv => rw [hd] at hzc; exact ⟨zv, rfl, by rw [cells_toList]; exact Option.some.inj hzc⟩
      unfold Instr.build
      rw [wk_bind, wk_zeroValue hi (hz.trans hzv), wk_bind, wk_underlying hu]
      cases hd : d.desc <;> rw [hd] at h <;> first | exact h.elim | skip
      case array n e =>
        dsimp only at h ⊢
        obtain ⟨he, h⟩ := cond_of h
        obtain ⟨de, hde, hse⟩ := hasT_some he
        obtain ⟨_, ie, hie, hsz, _⟩ := hT _ _ hde
        rw [wk_bind, wk_sizeOf hie, hsz, ← hse]
        split at h
        · next cs hcs => rw [fill_eq parts.toList zv.cells cs (by rw [hzl]; exact hcs)]; exact h
        · exact h.elim
      case struct fs =>
        dsimp only at h ⊢
        obtain ⟨he, h⟩ := cond_of h
        obtain ⟨l, rfl⟩ : ∃ l, fs = List.toArray l := ⟨fs.toList, by simp⟩
        simp only [wk_bind, List.mapM_toArray, wk_map]
        refine wk_mapM_mem _ (fun f => (f.offset, sizeK T f.type)) F l (fun f hf K => ?_) _ ?_
        · obtain ⟨df, hdf, hsf⟩ := allT_mem he f hf
          obtain ⟨_, ie, hie, hsz, _⟩ := hT _ _ hdf
          rw [wk_bind, wk_sizeOf hie, hsz, ← hsf]
          exact Iff.rfl
        · split at h
          · next cs hcs =>
            have hpl : (fun x => (List.map (fun f : Field => (f.offset, sizeK T f.type)) l).toArray[x]?) = placesK T l := by
              funext x
              unfold placesK
              simp only [List.getElem?_toArray, List.getElem?_map]
              cases hx : l[x]? with
              | none => rfl
              | some f =>
                obtain ⟨df, hdf, hsf⟩ := allT_mem he f (List.mem_of_getElem? hx)
                simp only [Option.map_some, hdf, hsf]
            rw [hpl, fill_eq parts.toList zv.cells cs (by rw [hzl]; exact hcs)]
            exact h
          · exact h.elim
theorem zeros_eq (z : Array Value) (n : Nat) : ((Array.range (n * z.size)).map (z[· % z.size]!)).toList = zerosL z.toList n := by
  induction n with
  | zero => simp [zerosL]
  | succ n ih =>
    have h1 : zerosL z.toList (n + 1) = zerosL z.toList n ++ z.toList := by
      clear ih
      induction n with
      | zero => simp [zerosL]
      | succ n ih =>
        show z.toList ++ zerosL z.toList (n + 1) = (z.toList ++ zerosL z.toList n) ++ z.toList
        rw [ih, List.append_assoc]
    rw [h1, ← ih, Nat.succ_mul]
    simp only [Array.toList_map, Array.toList_range, List.range_add, List.map_append, List.map_map]
    congr 1
    apply List.ext_getElem
    · simp
    · intro i h1 h2
      have h3 : i < z.size := by simpa using h2
      simp [Nat.add_mod, Nat.mod_eq_of_lt h3, h3]
theorem memK_sound {P : Program} {T : Tab} (hT : TabOk P T) {o : Oper} {ev : Operand → Value} {F : Heap} {K : Value → Heap → Prop} (h : memK P T o ev F K) : opW P o ev F K := by
  unfold memK at h
  cases ho : o.op <;> rw [ho] at h <;> (try dsimp only at h) <;> first | exact h.out | skip
  case load t a =>
    split at h
    · next d ad ht ha =>
      refine opW_v (s := Instr.loadAt t (ev a)) (by simp only [execOp, ho]) ?_
      rw [ha]
      simp only [Instr.loadAt, Instr.sureAddr, wk_bind, wk_pure]
      exact wk_loadVar hT ht h
    · exact h.elim
  case store t a x =>
    split at h
    · next d ad ht ha =>
      obtain ⟨hn, h⟩ := cond_of h
      refine opW_wk ?_
      simp only [execOp, ho, ha, Instr.storeAt, Instr.sureAddr, wk_bind, wk_pure]
      exact wk_storeVar hT ht (Nat.eq_of_beq_eq_true hn) ⟨by obtain ⟨c, e, fz, h1, h2, h3, h4, h5, h6⟩ := h.out; exact ⟨c, e, fz, h1, h2, h3, h4, h5, h6⟩⟩
    · exact h.elim
  case box e x =>
    refine opW_v (s := Instr.box e (ev x)) (by simp only [execOp, ho]) ?_
    simp only [Instr.box, newVar, newRow, wk_bind, wk_pure]
    refine run_new ⟨fun b hb => ?_⟩
    have := h.out b hb
    rw [← cells_toList] at this
    simpa using this
  case alloc e =>
    split at h
    case h_2 => exact h.elim
    case h_1 d ht =>
      obtain ⟨hu, i, hi, hs, hb, hz⟩ := hT _ _ ht
      split at h
      case h_2 => exact h.elim
      case h_1 z hzc =>
        unfold zcells at hzc
        cases hd : d.zero with
        | none => rw [hd] at hzc; cases hzc
        | some zv =>
          rw [hd] at hzc
          obtain rfl := Option.some.inj hzc
          refine opW_v (s := Instr.alloc e true (.tuple #[])) (by simp only [execOp, ho]) ?_
          simp only [Instr.alloc, wk_bind, wk_zeroValue hi (hz.trans hd), newVar, newRow, wk_pure]
          refine run_new ⟨fun b hb => ?_⟩
          have := h.out b hb
          rw [← cells_toList] at this
          simpa using this
  case build t parts =>
    refine opW_v (s := Instr.build t (parts.map fun (i, x) => (i, ev x))) (by simp only [execOp, ho]) ?_
    exact buildK_sound hT (by simpa using h)
  case buildSlice t n parts =>
    split at h
    case h_2 => exact h.elim
    case h_1 s_ b_ e z_ ht =>
      obtain ⟨hu, _⟩ := hT _ _ ht
      split at h
      case h_2 => exact h.elim
      case h_1 d hd =>
        obtain ⟨_, i, hi, hs, hb, hz⟩ := hT _ _ hd
        split at h
        case h_2 => exact h.elim
        case h_1 z hzc =>
          obtain ⟨hc, h⟩ := cond_of h
          obtain ⟨hc, h0⟩ := Bool.and_eq_true_iff.1 hc
          obtain ⟨h1, h2⟩ := Bool.and_eq_true_iff.1 hc
          have h1 := Nat.eq_of_beq_eq_true h1
          have h2 := Nat.le_of_ble_eq_true h2
          have h0 : 0 < d.size := Nat.le_of_ble_eq_true h0
          split at h
          case h_2 => exact h.elim
          case h_1 cs hcs =>
            obtain ⟨zv, hzv, hzl⟩ : ∃ zv, d.zero = some zv ∧ zv.cells.toList = z := by
              unfold zcells at hzc
              cases hd : d.zero with
              | none => rw [hd] at hzc; cases hzc
              | some zv => rw [hd] at hzc; exact ⟨zv, rfl, by rw [cells_toList]; exact Option.some.inj hzc⟩
            have hzs : zv.cells.size = d.size := by rw [← h1, ← hzl]; simp
            refine opW_v (s := Instr.buildSlice t n (parts.map fun (i, x) => (i, ev x))) (by simp only [execOp, ho]) ?_
            unfold Instr.buildSlice
            rw [wk_bind, wk_underlying hu]
            dsimp only
            rw [wk_bind, wk_sizeOf hi, hs, if_neg (by omega)]
            have hfill : Instr.fill (fun i => some (i * d.size, d.size)) ((Array.range (n * d.size)).map (zv.cells[· % zv.cells.size]!)) (parts.map fun (i, x) => (i, ev x)).toList = some cs.toArray := by
              refine fill_eq _ _ cs ?_
              rw [← hzs, zeros_eq, hzl]
              rw [← hzs] at hcs
              simpa using hcs
            by_cases hn : n * d.size = 0
            · have hn0 : n = 0 := by
                rcases Nat.mul_eq_zero.1 hn with h | h
                · exact h
                · omega
              subst hn0
              rw [if_pos hn, wk_bind, wk_pure]
              have : ((Array.range (0 * d.size)).map ((#[] : Array Value)[· % (#[] : Array Value).size]!)) = ((Array.range (0 * d.size)).map (zv.cells[· % zv.cells.size]!)) := by simp
              rw [this, hfill]
              simp only [newRow, wk_bind, wk_pure]
              exact run_new h
            · rw [if_neg hn, wk_bind, wk_zeroValue hi (hz.trans hzv), wk_bind, wk_pure, hfill]
              simp only [newRow, wk_bind, wk_pure]
              exact run_new h
  case call c =>
    obtain ⟨cal, args, ts⟩ := c
    cases cal with
    | invoke r m => exact h.out
    | builtin b => exact h.out
    | value f =>
      dsimp only at h
      split at h
      · next g first captured hf =>
        have hargs : first ++ Array.map ev args ++ captured = (first.toList ++ args.toList.map ev ++ captured.toList).toArray := Array.toList_inj.1 (by simp)
        refine opW_wk ?_
        simp only [execOp, ho, resolve, wk_bind, wk_pure, hf, Deferred.ofValue, invoke]
        rw [hargs]
        exact h.out
      · exact h.elim

theorem stepK_sound {P : Program} {T : Tab} (hT : TabOk P T) {o : Oper} {ev : Operand → Value} {F : Heap} {K : Value → Heap → Prop} (h : stepK P T o ev F K) : opW P o ev F K := by
  unfold stepK at h
  cases hv : isVal o.op with
  | true =>
    rw [hv, cond_true] at h
    obtain ⟨v, hk, hs⟩ := valK_sound hT rfl h
    exact opW_mono (hs F) fun u F' ⟨e1, e2⟩ => by subst e1; subst e2; exact hk
  | false =>
    rw [hv, cond_false] at h
    exact memK_sound hT h
end Go.Al

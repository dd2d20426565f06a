/- Texts of this claim, joined: AlFork AlData AlNum AlRows AlMore AlRange AlMap AlTerr AlIter AlMake AlStruct AlEq InfA InfB InfS InfT InfC InfD InfE AlGrow InfG InfH InfI. -/
import Derived.Test.YtpbpjmnnbmjmbaaMgInfE1
import Derived.Laws.StructEq
import Derived.Shelf.SlSortCmp.WholeK
import Derived.Shelf.SlicesG.Cmp
import Derived.Sort.OwnSortedInts
/- The logic of a known part of memory, 7b: a region that draws its order, told as a tree: where movers stand in no row, the tree parts. It holds for every program that follows mixed orders. -/
namespace Go.Al
open Go

/-- The orders in which a region is told. -/
inductive DT
  | nil
  | cons (i : Nat) (t : DT)
  | fork (l r : DT)
def DT.row : List Nat → DT → DT
  | [], t => t
  | i :: l, t => .cons i (DT.row l t)
def isPl (T : Tab) (op : Op) : Bool := !convB T op && (isVal op || (match op with | .build _ _ => true | _ => false))
def isSt (T : Tab) (op : Op) : Bool := isPl T op || (!convB T op && (match op with | .load _ _ => true | _ => false))
def stAt (T : Tab) (ops : Array Oper) (i : Nat) : Bool := match ops[i]? with | some o => isSt T o.op | none => false
def findH (M : List Nat) (i : Nat) : DT → Bool
  | .nil => false
  | .cons h _ => Nat.beq h i || bit M i h
  | .fork l r => findH M i l || findH M i r
def findT (T : Tab) (ops : Array Oper) (M : List Nat) (i : Nat) : DT → Bool
  | .nil => false
  | .cons h t => Nat.beq h i || bit M i h || (stAt T ops h && findT T ops M i t)
  | .fork l r => findH M i l || findH M i r
def nodeOk (T : Tab) (ops : Array Oper) (M : List Nat) (done : List Nat) (t : DT) : Bool := (List.range ops.size).all fun i => done.contains i || findT T ops M i t
def chkT (T : Tab) (ops : Array Oper) (M : List Nat) (lo done : List Nat) (i : Nat) : Bool :=
    (match ops[i]? with
    | none => false
    | some o =>
      (o.after.toList.all fun e => !Region.binds .any e || done.contains e.on) &&
      (!lo.contains i || isSt T o.op) &&
      ((List.range ops.size).all fun k => Nat.beq k i || (match ops[k]? with
        | some p => (match p.dst with
          | some t => (!(readsOf ops o).contains t || bit M i k || bit M k i) && (match o.dst with | some d => !Nat.beq d t | none => true)
          | none => true)
        | none => true)) &&
      (match o.op with | .select _ _ => false | _ => true)) &&
    !done.contains i
def checkT (T : Tab) (ops : Array Oper) (M : List Nat) (lo : List Nat) : DT → Bool → List Nat → Bool
  | .nil, _, done => (List.range ops.size).all fun i => done.contains i
  | .cons i t, b, done => (!b || nodeOk T ops M done (.cons i t)) && chkT T ops M lo done i && checkT T ops M lo t true (i :: done)
  | .fork l r, b, done => (!b || nodeOk T ops M done (.fork l r)) && checkT T ops M lo l false done && checkT T ops M lo r false done
def soloT (T : Tab) (ops : Array Oper) (M : List Nat) (lo done : List Nat) (i : Nat) : Bool := done.all fun j => (match ops[j]? with | some p => isPl T p.op || !isSt T p.op | none => true) || lo.contains j || bit M i j
/-- With a mark in lo (a number beyond the region): nothing is told by G any more behind this mover. -/
def offT (ops : Array Oper) (M : List Nat) (lo done : List Nat) (i : Nat) : Bool := (lo.any fun j => Nat.ble ops.size j) && lo.all fun j => Nat.ble ops.size j || (done.contains j && bit M i j)
def nextT (T : Tab) (ops : Array Oper) (M : List Nat) (lo : List Nat) (G : Heap) (i : Nat) (o : Oper) (ih : List Nat → Env → Heap → Prop) (done : List Nat) (env : Env) (F : Heap) (v : Value) (F' : Heap) : Prop :=
  bif isSt T o.op then ih (i :: done) (env.set o.dst v) F else (bif offT ops M lo done i then (bif soloT T ops M lo done i then ih (i :: done) (env.set o.dst v) F' else (Ext F F' ∧ ih (i :: done) (env.set o.dst v) F')) else (Ext G F' ∧ bif soloT T ops M lo done i then ih (i :: done) (env.set o.dst v) F' else (Ext F F' ∧ ih (i :: done) (env.set o.dst v) F')))
def stepBase (P : Program) (T : Tab) (lo : List Nat) (G : Heap) (i : Nat) (o : Oper) (ev : Operand → Value) (F : Heap) (K : Value → Heap → Prop) : Prop := bif lo.contains i then stepB P T o ev G K else stepB P T o ev F K
def baseT (lo : List Nat) (G : Heap) (i : Nat) (F : Heap) : Heap := bif lo.contains i then G else F
def treeStep (P : Program) (T : Tab) (ops : Array Oper) (M : List Nat) (lo : List Nat) (G : Heap) (i : Nat) (ih : List Nat → Env → Heap → Prop) (done : List Nat) (env : Env) (F : Heap) : Prop :=
    match ops[i]? with
    | none => False
    | some o =>
      match o.guard with
      | none => stepBase P T lo G i o env.ev F (nextT T ops M lo G i o ih done env F)
      | some (j, want) => match yieldedE ops env j with
        | some b => CondK (match want with | true => b | false => !b)
            (stepBase P T lo G i o (guardE ops j want env).ev F (nextT T ops M lo G i o ih done (guardE ops j want env) F))
            (ih (i :: done) ((guardE ops j (!want) env).set o.dst undef) F)
        | none => ih (i :: done) (env.set o.dst undef) F
def treeGo (P : Program) (T : Tab) (ops : Array Oper) (M : List Nat) (lo : List Nat) (G : Heap) (K : Env → Heap → Prop) (t : DT) : List Nat → Env → Heap → Prop :=
  DT.rec (motive := fun _ => List Nat → Env → Heap → Prop) (fun _ => K) (fun i _ ih => treeStep P T ops M lo G i ih) (fun _ _ l r done env F => l done env F ∧ r done env F) t
theorem treeGo_eq {P : Program} {T : Tab} {ops : Array Oper} {M lo : List Nat} {G : Heap} {K : Env → Heap → Prop} {done : List Nat} {t : DT} {i : Nat} {env : Env} {F : Heap} : treeGo P T ops M lo G K (.cons i t) done env F = treeStep P T ops M lo G i (treeGo P T ops M lo G K t) done env F := rfl

theorem buildK_val {T : Tab} {t : TypeId} {parts : List (Nat × Value)} {K : Value → Prop} (h : buildK T t parts K) : ∃ v, K v ∧ ∀ K' : Value → Prop, K' v → buildK T t parts K' := by
  revert h
  unfold buildK
  cases T t with
  | none => exact fun h => h.elim
  | some d =>
    dsimp only
    cases zcells d with
    | none => exact fun h => h.elim
    | some z =>
      dsimp only
      cases d.desc with
      | struct fs =>
        dsimp only
        cases allT T fs.toList with
        | false => exact fun h => h.elim
        | true =>
          rw [cond_true]
          cases fillL (placesK T fs.toList) z parts with
          | none => exact fun h => h.elim
          | some cs => exact fun h => ⟨_, h, fun K' h => h⟩
      | array n e =>
        dsimp only
        cases hasT T e with
        | false => exact fun h => h.elim
        | true =>
          rw [cond_true]
          cases fillL (fun i => some (i * sizeK T e, sizeK T e)) z parts with
          | none => exact fun h => h.elim
          | some cs => exact fun h => ⟨_, h, fun K' h => h⟩
      | _ => exact fun h => h.elim
/-- What moves nothing. -/
theorem step_st {P : Program} {T : Tab} (hT : TabOk P T) {o : Oper} (hs : isSt T o.op = true) {ev : Operand → Value} {F : Heap} {K : Value → Heap → Prop} (h : stepB P T o ev F K) :
    ∃ v, K v F ∧ (∀ F', Ext F F' → opW P o ev F' (fun u F'' => u = v ∧ F'' = F')) ∧ (isPl T o.op = true → ∀ F', opW P o ev F' (fun u F'' => u = v ∧ F'' = F')) := by
  have hcv : convB T o.op = false := by
    cases e : convB T o.op with
    | false => rfl
    | true => unfold isSt isPl at hs; rw [e] at hs; cases hs
  have h : stepK P T o ev F K := by unfold stepB at h; rw [hcv, cond_false] at h; exact h
  have hs : ((isVal o.op || (match o.op with | .build _ _ => true | _ => false)) || (match o.op with | .load _ _ => true | _ => false)) = true := by
    unfold isSt isPl at hs; rw [hcv, Bool.not_false, Bool.true_and, Bool.true_and] at hs; exact hs
  cases hp : isStill o.op with
  | true =>
    obtain ⟨v, h1, h2, h3⟩ := step_still hT hp h
    refine ⟨v, h1, h2, fun e => h3 ?_⟩
    cases hv : isVal o.op with
    | true => rfl
    | false =>
      unfold isPl at e
      rw [hcv, Bool.not_false, Bool.true_and, hv, Bool.false_or] at e
      have hp : (isVal o.op || (match o.op with | .load _ _ => true | _ => false)) = true := hp
      rw [hv, Bool.false_or] at hp
      split at e
      · next ho => rw [ho] at hp; cases hp
      · cases e
  | false =>
    obtain ⟨hv, hl⟩ := Bool.or_eq_false_iff.1 (show (isVal o.op || _) = false from hp)
    simp only [Bool.or_eq_true] at hs
    have hs := hs.elim (fun h => h.elim (fun h => (by rw [hv] at h; cases h)) id) (fun h => by split at h <;> first | (cases h; done) | (rename_i ho; rw [ho] at hl; cases hl))
    split at hs
    · next t parts ho =>
      unfold stepK at h
      rw [hv, cond_false] at h
      unfold memK at h
      rw [ho] at h
      dsimp only at h
      obtain ⟨v, hk, hb⟩ := buildK_val h
      have key : ∀ F', opW P o ev F' (fun u F'' => u = v ∧ F'' = F') := fun F' => by
        refine opW_v (s := Instr.build t (parts.map fun (i, x) => (i, ev x))) (by simp only [execOp, ho]) ?_
        have hl : (parts.map fun (i, x) => (i, ev x)).toList = parts.toList.map fun p => (p.1, ev p.2) := by simp
        exact buildK_sound (K := fun u F'' => u = v ∧ F'' = F') hT (by rw [hl]; exact hb _ ⟨rfl, rfl⟩)
      exact ⟨v, hk, fun F' _ => key F', fun _ F' => key F'⟩
    · cases hs

theorem treeGo_cons {P : Program} {T : Tab} (hT : TabOk P T) {ops : Array Oper} {M lo : List Nat} {G : Heap} {K : Env → Heap → Prop} {done : List Nat} {t : DT} {i : Nat} {o : Oper} {E : Env} {F : Heap} (ho : ops[i]? = some o) (hlo : lo.contains i = true → isSt T o.op = true) (h : treeGo P T ops M lo G K (.cons i t) done E F) :
    (wantedE ops E o = false ∧ treeGo P T ops M lo G K t (i :: done) (E.set o.dst undef) F) ∨
    (wantedE ops E o = true ∧ isSt T o.op = true ∧ ∃ x, (∀ F', Ext (baseT lo G i F) F' → opW P o E.ev F' (fun u F'' => u = x ∧ F'' = F')) ∧ (isPl T o.op = true → ∀ F', opW P o E.ev F' (fun u F'' => u = x ∧ F'' = F')) ∧ treeGo P T ops M lo G K t (i :: done) (E.set o.dst x) F) ∨
    (wantedE ops E o = true ∧ isSt T o.op = false ∧ opW P o E.ev F (fun x F' => (offT ops M lo done i = true ∨ Ext G F') ∧ (soloT T ops M lo done i = true ∨ Ext F F') ∧ treeGo P T ops M lo G K t (i :: done) (E.set o.dst x) F')) := by
  have run : ∀ (_ : wantedE ops E o = true), stepBase P T lo G i o E.ev F (nextT T ops M lo G i o (treeGo P T ops M lo G K t) done E F) →
      (wantedE ops E o = true ∧ isSt T o.op = true ∧ ∃ x, (∀ F', Ext (baseT lo G i F) F' → opW P o E.ev F' (fun u F'' => u = x ∧ F'' = F')) ∧ (isPl T o.op = true → ∀ F', opW P o E.ev F' (fun u F'' => u = x ∧ F'' = F')) ∧ treeGo P T ops M lo G K t (i :: done) (E.set o.dst x) F) ∨
      (wantedE ops E o = true ∧ isSt T o.op = false ∧ opW P o E.ev F (fun x F' => (offT ops M lo done i = true ∨ Ext G F') ∧ (soloT T ops M lo done i = true ∨ Ext F F') ∧ treeGo P T ops M lo G K t (i :: done) (E.set o.dst x) F')) := by
    intro hw hs
    have hs : stepB P T o E.ev (baseT lo G i F) (nextT T ops M lo G i o (treeGo P T ops M lo G K t) done E F) := by
      unfold stepBase at hs
      unfold baseT
      cases e : lo.contains i with
      | true => rw [e, cond_true] at hs; exact hs
      | false => rw [e, cond_false] at hs; exact hs
    cases hst : isSt T o.op with
    | true =>
      obtain ⟨x, h1, h2, h3⟩ := step_st hT hst hs
      unfold nextT at h1
      rw [hst, cond_true] at h1
      exact .inl ⟨hw, rfl, x, h2, h3, h1⟩
    | false =>
      have hb : baseT lo G i F = F := by
        unfold baseT
        cases e : lo.contains i with
        | false => rfl
        | true => rw [hlo e] at hst; cases hst
      rw [hb] at hs
      refine .inr ⟨hw, rfl, opW_mono (stepB_sound hT hs) fun v F' hv => ?_⟩
      unfold nextT at hv
      rw [hst, cond_false] at hv
      have hv2 : (offT ops M lo done i = true ∨ Ext G F') ∧ (bif soloT T ops M lo done i then treeGo P T ops M lo G K t (i :: done) (E.set o.dst v) F' else (Ext F F' ∧ treeGo P T ops M lo G K t (i :: done) (E.set o.dst v) F')) := by
        cases hof : offT ops M lo done i with
        | true => rw [hof, cond_true] at hv; exact ⟨.inl rfl, hv⟩
        | false => rw [hof, cond_false] at hv; exact ⟨.inr hv.1, hv.2⟩
      refine ⟨hv2.1, ?_⟩
      have hv := hv2.2
      cases hso : soloT T ops M lo done i with
      | true => rw [hso, cond_true] at hv; exact ⟨.inl rfl, hv⟩
      | false => rw [hso, cond_false] at hv; exact ⟨.inr hv.1, hv.2⟩
  rw [treeGo_eq] at h
  unfold treeStep at h
  rw [ho] at h
  dsimp only at h
  cases hg : o.guard with
  | none =>
    rw [hg] at h
    exact .inr (run (by simp [wantedE, hg]) h)
  | some p =>
    obtain ⟨j, want⟩ := p
    rw [hg] at h
    dsimp only at h
    cases hy : yieldedE ops E j with
    | none =>
      rw [hy] at h
      exact .inl ⟨by simp [wantedE, hg, hy], h⟩
    | some b =>
      rw [hy] at h
      dsimp only at h
      by_cases hb : b = want
      · subst hb
        have h := h.yes (by cases b <;> rfl)
        rw [guardE_eq hy] at h
        exact .inr (run (by simp [wantedE, hg, hy]) h)
      · have hb' : b = !want := by cases b <;> cases want <;> simp_all
        subst hb'
        have h := h.no (by cases want <;> rfl)
        rw [guardE_eq hy] at h
        exact .inl ⟨by simp [wantedE, hg, hy], h⟩
/-- What the check says of one operation. -/
structure ChkT (T : Tab) (ops : Array Oper) (M : List Nat) (lo done : List Nat) (i : Nat) (o : Oper) : Prop where
  get : ops[i]? = some o
  ahead : ∀ e ∈ o.after, Region.binds .any e = true → e.on ∈ done
  low : lo.contains i = true → isSt T o.op = true
  apart : ∀ k p t, ops[k]? = some p → k ≠ i → p.dst = some t → (t ∈ o.looksAt ops → bit M i k = true ∨ bit M k i = true) ∧ (∀ d, o.dst = some d → d ≠ t)
  plain : ∀ cs b, o.op ≠ .select cs b
  new : i ∉ done
theorem chkT_out {T : Tab} {ops : Array Oper} {M lo done : List Nat} {i : Nat} (h : chkT T ops M lo done i = true) : ∃ o, ChkT T ops M lo done i o := by
  unfold chkT at h
  rw [Bool.and_eq_true] at h
  obtain ⟨h, hn⟩ := h
  cases ho : ops[i]? with
  | none => rw [ho] at h; cases h
  | some o =>
    rw [ho] at h
    simp only [Bool.and_eq_true, List.all_eq_true] at h
    obtain ⟨⟨⟨h1, h2⟩, h3⟩, h4⟩ := h
    refine ⟨o, ho, fun e he hb => ?_, fun hl => ?_, fun k p t hp hk ht => ?_, fun cs b e => ?_, by simpa using hn⟩
    · have := h1 e (by simpa using he)
      rw [hb] at this
      simpa using this
    · rw [hl] at h2; simpa using h2
    · have hlt : k < ops.size := (Array.getElem?_eq_some_iff.1 hp).1
      have := h3 k (by simpa using hlt)
      rw [beq_ne hk, Bool.false_or, hp] at this
      dsimp only at this
      rw [ht] at this
      simp only [Bool.and_eq_true, Bool.or_eq_true] at this
      obtain ⟨g1, g2⟩ := this
      refine ⟨fun hm => ?_, fun d hd => ?_⟩
      · rcases g1 with (g | g) | g
        · simp [readsOf, hm] at g
        · exact .inl g
        · exact .inr g
      · rw [hd] at g2
        intro e
        subst e
        simp [Nat.beq_refl] at g2
    · rw [e] at h4; cases h4
theorem checkT_cons {T : Tab} {ops : Array Oper} {M lo : List Nat} {i : Nat} {t : DT} {b : Bool} {done : List Nat} (h : checkT T ops M lo (.cons i t) b done = true) : (∃ o, ChkT T ops M lo done i o) ∧ checkT T ops M lo t true (i :: done) = true := by
  simp only [checkT, Bool.and_eq_true] at h
  exact ⟨chkT_out h.1.2, h.2⟩
theorem checkT_node {T : Tab} {ops : Array Oper} {M lo : List Nat} {t : DT} {done : List Nat} (h : checkT T ops M lo t true done = true) {i : Nat} (hi : i < ops.size) (hn : i ∉ done) : findT T ops M i t = true := by
  have key : nodeOk T ops M done t = true → findT T ops M i t = true := fun h => by
    unfold nodeOk at h
    have := List.all_eq_true.1 h i (by simpa using hi)
    rcases (Bool.or_eq_true_iff.1 this) with h1 | h1
    · exact absurd (by simpa using h1) hn
    · exact h1
  cases t with
  | nil =>
    simp only [checkT] at h
    have := List.all_eq_true.1 h i (by simpa using hi)
    exact absurd (by simpa using this) hn
  | cons j t => simp only [checkT, Bool.and_eq_true, Bool.not_true, Bool.false_or] at h; exact key h.1.1
  | fork l r => simp only [checkT, Bool.and_eq_true, Bool.not_true, Bool.false_or] at h; exact key h.1.1

/-- An operation that is told and not yet done. -/
structure PendT (P : Program) (T : Tab) (ops : Array Oper) (lo : List Nat) (G : Heap) (env0 : Env) (done : List Nat) (v : Nat → Value) (F : Heap) (i : Nat) (o : Oper) (D : Nat → Bool) : Prop where
  get : ops[i]? = some o
  still : isSt T o.op = true
  plain : ∀ cs b, o.op ≠ .select cs b
  apart : ∀ k p t, ops[k]? = some p → k ≠ i → p.dst = some t → t ∈ o.looksAt ops → bit (maskGo ops.toList []) i k = true ∨ bit (maskGo ops.toList []) k i = true
  uniq : ∀ k p t, ops[k]? = some p → k ≠ i → p.dst = some t → ∀ d, o.dst = some d → d ≠ t
  anc : ∀ k, bit (maskGo ops.toList []) i k = true → D k = true
  des : ∀ k, D k = true → bit (maskGo ops.toList []) k i = false
  self : D i = false
  sub : ∀ k, D k = true → k ∈ done
  skip : wantedE ops (WV ops env0 D v) o = false → v i = undef
  run : wantedE ops (WV ops env0 D v) o = true → ∀ F', Ext (baseT lo G i F) F' → opW P o (WV ops env0 D v).ev F' (fun u F'' => u = v i ∧ F'' = F')
  pure : wantedE ops (WV ops env0 D v) o = true → isPl T o.op = true → ∀ F', opW P o (WV ops env0 D v).ev F' (fun u F'' => u = v i ∧ F'' = F')
/-- Told and done, side by side. -/
structure InvT (P : Program) (T : Tab) (ops : Array Oper) (lo : List Nat) (G : Heap) (K : Env → Heap → Prop) (env0 : Env) (m0 : Bool) (n : Nat) (w0 : World) (L : Nat → Bool) (a : Act) (w : World) (b : Bool) (done : List Nat) (rest : DT) (v : Nat → Value) (F : Heap) : Prop where
  check : checkT T ops (maskGo ops.toList []) lo rest b done = true
  got : ∀ i ∈ done, ∃ o, ops[i]? = some o
  closed : Closed ops (fun k => done.contains k)
  sub : ∀ i, L i = true → i ∈ done
  lclosed : Closed ops L
  size : a.tmps.size = n
  held : Held m0 w0.heap.size a.defers w
  val : ∀ t, a.tmps.getD t undef = WV ops env0 L v t
  told : treeGo P T ops (maskGo ops.toList []) lo G K rest done (WV ops env0 (fun k => done.contains k) v) F
  has : Has F w
  floor : (∀ j, lo.contains j = true → j < ops.size → L j = true) ∨ Ext G F
  rst : Rest w0 w
  pend : ∀ i ∈ done, L i = false → ∃ o D, PendT P T ops lo G env0 done v F i o D
theorem InvT.ag {P : Program} {T : Tab} {ops : Array Oper} {lo : List Nat} {G : Heap} {K : Env → Heap → Prop} {env0 : Env} {m0 : Bool} {n : Nat} {w0 : World} {L : Nat → Bool} {a : Act} {w : World} {b : Bool} {done : List Nat} {rest : DT} {v : Nat → Value} {F : Heap} (h : InvT P T ops lo G K env0 m0 n w0 L a w b done rest v F) : Ag n (WV ops env0 L v) a := ⟨h.size, h.val⟩
theorem floor_up {lo : List Nat} {n i : Nat} {L L' : Nat → Bool} {G F : Heap} (h : (∀ j, lo.contains j = true → j < n → L j = true) ∨ Ext G F) (hL : ∀ k, k ≠ i → L' k = L k) (hLi : L' i = true) : (∀ j, lo.contains j = true → j < n → L' j = true) ∨ Ext G F := by
  rcases h with h | h
  · refine .inl fun j h1 h2 => ?_
    by_cases e : j = i
    · rw [e]; exact hLi
    · rw [hL j e]; exact h j h1 h2
  · exact .inr h
theorem base_ext' {lo : List Nat} {G F F' : Heap} {i : Nat} (hg : lo.contains i = true → Ext G F') (hf : lo.contains i = false → Ext F F') : Ext (baseT lo G i F) F' := by
  unfold baseT
  cases e : lo.contains i with
  | true => exact hg e
  | false => exact hf e
theorem base_ext {lo : List Nat} {G F F' : Heap} {i : Nat} (hg : Ext G F') (hf : lo.contains i = false → Ext F F') : Ext (baseT lo G i F) F' := by
  unfold baseT
  cases e : lo.contains i with
  | true => exact hg
  | false => exact hf e
/-- One more is told that moves nothing, or that isn't wanted: it is done later. -/
theorem InvT.push {P : Program} {T : Tab} {ops : Array Oper} {lo : List Nat} {G : Heap} {K : Env → Heap → Prop} {env0 : Env} {m0 : Bool} {n : Nat} {w0 : World} {L : Nat → Bool} {a : Act} {w : World} {b : Bool} {done : List Nat} {rest : DT} {v : Nat → Value} {F : Heap} {i : Nat} {o : Oper} (h : InvT P T ops lo G K env0 m0 n w0 L a w b done (.cons i rest) v F)
    (hc : ChkT T ops (maskGo ops.toList []) lo done i o) (hst : isSt T o.op = true) (x : Value)
    (hskip : wantedE ops (WV ops env0 (fun k => done.contains k) v) o = false → x = undef)
    (hrun : wantedE ops (WV ops env0 (fun k => done.contains k) v) o = true → (∀ F', Ext (baseT lo G i F) F' → opW P o (WV ops env0 (fun k => done.contains k) v).ev F' (fun u F'' => u = x ∧ F'' = F')) ∧ (isPl T o.op = true → ∀ F', opW P o (WV ops env0 (fun k => done.contains k) v).ev F' (fun u F'' => u = x ∧ F'' = F')))
    (ht : treeGo P T ops (maskGo ops.toList []) lo G K rest (i :: done) ((WV ops env0 (fun k => done.contains k) v).set o.dst x) F) :
    InvT P T ops lo G K env0 m0 n w0 L a w true (i :: done) rest (fun k => if k = i then x else v k) F := by
  have hLi : L i = false := by
    cases hL : L i with
    | false => rfl
    | true => exact absurd (h.sub i hL) hc.new
  have hvv : ∀ k, k ≠ i → (fun k => if k = i then x else v k) k = v k := fun k hk => by simp [hk]
  have hDi : (fun k => done.contains k) i = false := by simpa using hc.new
  refine ⟨(checkT_cons h.check).2, fun k hk => ?_, fun k p hp hk e he hb => ?_, fun k hk => List.mem_cons_of_mem _ (h.sub k hk), h.lclosed, h.size, h.held, fun t => ?_, ?_, h.has, h.floor, h.rst, fun k hk hL => ?_⟩
  · rcases List.mem_cons.1 hk with rfl | hk
    · exact ⟨o, hc.get⟩
    · exact h.got k hk
  · have hk : k ∈ i :: done := by simpa using hk
    have : e.on ∈ i :: done := by
      rcases List.mem_cons.1 hk with rfl | hk
      · rw [hc.get] at hp; obtain rfl := Option.some.inj hp
        exact List.mem_cons_of_mem _ (hc.ahead e he hb)
      · have := h.closed k p hp (by simpa using hk) e he hb
        exact List.mem_cons_of_mem _ (by simpa using this)
    simpa using this
  · rw [h.val t, WV_new hLi hvv]
  · have := WV_set (v' := fun k => if k = i then x else v k) hc.get (fun k p t hp hk ht => (hc.apart k p t hp hk ht).2) (env0 := env0) (S := fun k => done.contains k) (S' := fun k => (i :: done).contains k) (v := v) (fun k hk => by simp [hk]) (by simp) hvv
    simp only [if_true] at this
    rw [← this]
    exact ht
  · rcases List.mem_cons.1 hk with rfl | hk
    · refine ⟨o, fun k => done.contains k, hc.get, hst, hc.plain, fun k' p t hp hk' hpt ht' => (hc.apart k' p t hp hk' hpt).1 ht', fun k' p t hp hk' hpt => (hc.apart k' p t hp hk' hpt).2, fun k' hk' => ?_, fun k' hk' => ?_, hDi, fun k' hk' => List.mem_cons_of_mem _ (by simpa using hk'), ?_, ?_, ?_⟩
      · exact mask_sound hk' h.closed (fun p hp e he hb => by rw [hc.get] at hp; obtain rfl := Option.some.inj hp; simpa using hc.ahead e he hb)
      · cases hb : bit (maskGo ops.toList []) k' k with
        | false => rfl
        | true =>
          have := mask_sound hb h.closed (fun p hp e he hb => h.closed k' p hp hk' e he hb)
          exact absurd (this.symm.trans hDi) (by decide)
      · rw [WV_new hDi hvv]; intro hw; simp [hskip hw]
      · rw [WV_new hDi hvv]; intro hw F' hF; exact opW_mono ((hrun hw).1 F' hF) fun u F'' ⟨e1, e2⟩ => ⟨e1.trans (if_pos rfl).symm, e2⟩
      · rw [WV_new hDi hvv]; intro hw hV F'; exact opW_mono ((hrun hw).2 hV F') fun u F'' ⟨e1, e2⟩ => ⟨e1.trans (if_pos rfl).symm, e2⟩
    · obtain ⟨p, D, hp⟩ := h.pend k hk hL
      have hki : k ≠ i := fun e => hc.new (e ▸ hk)
      have hDi' : D i = false := by
        cases hD : D i with
        | false => rfl
        | true => exact absurd (hp.sub i hD) hc.new
      refine ⟨p, D, hp.get, hp.still, hp.plain, hp.apart, hp.uniq, hp.anc, hp.des, hp.self, fun k' hk' => List.mem_cons_of_mem _ (hp.sub k' hk'), ?_, ?_, ?_⟩
      · rw [WV_new hDi' hvv]; intro hw; simp only [hki, if_false]; exact hp.skip hw
      · rw [WV_new hDi' hvv]; intro hw F' hF; simp only [hki, if_false]; exact hp.run hw F' hF
      · rw [WV_new hDi' hvv]; intro hw hV F'; simp only [hki, if_false]; exact hp.pure hw hV F'
/-- What is ready, and not yet told, is told next. -/
theorem InvT.head {P : Program} {T : Tab} {ops : Array Oper} {lo : List Nat} {G : Heap} {K : Env → Heap → Prop} {env0 : Env} {m0 : Bool} {n : Nat} {w0 : World} {L : Nat → Bool} {a : Act} {w : World} {b : Bool} {done : List Nat} {rest : DT} {v : Nat → Value} {F : Heap} {i : Nat} (hi : Ahead ops L i) (h : InvT P T ops lo G K env0 m0 n w0 L a w b done rest v F) (hf : findH (maskGo ops.toList []) i rest = true) :
    ∃ rest', InvT P T ops lo G K env0 m0 n w0 L a w false done (.cons i rest') v F := by
  induction rest generalizing b with
  | nil => cases hf
  | cons j t _ =>
    simp only [findH, Bool.or_eq_true] at hf
    obtain ⟨⟨o, hc⟩, _⟩ := checkT_cons h.check
    rcases hf with hf | hf
    · obtain rfl := Nat.eq_of_beq_eq_true hf
      refine ⟨t, ?_, h.got, h.closed, h.sub, h.lclosed, h.size, h.held, h.val, h.told, h.has, h.floor, h.rst, h.pend⟩
      have := h.check
      simp only [checkT, Bool.and_eq_true] at this ⊢
      exact ⟨⟨rfl, this.1.2⟩, this.2⟩
    · exact absurd (h.sub j (mask_sound hf h.lclosed hi)) hc.new
  | fork l r ihl ihr =>
    simp only [findH, Bool.or_eq_true] at hf
    have hck := h.check
    simp only [checkT, Bool.and_eq_true] at hck
    have go : ∀ (t : DT), checkT T ops (maskGo ops.toList []) lo t false done = true → treeGo P T ops (maskGo ops.toList []) lo G K t done (WV ops env0 (fun k => done.contains k) v) F → InvT P T ops lo G K env0 m0 n w0 L a w false done t v F :=
      fun t h1 h2 => ⟨h1, h.got, h.closed, h.sub, h.lclosed, h.size, h.held, h.val, h2, h.has, h.floor, h.rst, h.pend⟩
    rcases hf with hf | hf
    · exact ihl (go l hck.1.2 h.told.1) hf
    · exact ihr (go r hck.2 h.told.2) hf
theorem InvT.reach {P : Program} {T : Tab} (hT : TabOk P T) {ops : Array Oper} {lo : List Nat} {G : Heap} {K : Env → Heap → Prop} {env0 : Env} {m0 : Bool} {n : Nat} {w0 : World} {L : Nat → Bool} {a : Act} {w : World} {i : Nat} (hi : Ahead ops L i) (hlt : i < ops.size) : ∀ (rest : DT) {done : List Nat} {v : Nat → Value} {F : Heap}, InvT P T ops lo G K env0 m0 n w0 L a w true done rest v F → i ∉ done →
    ∃ b' done' rest' v', InvT P T ops lo G K env0 m0 n w0 L a w b' done' (.cons i rest') v' F := by
  intro rest
  induction rest with
  | nil => intro done v F h hn; have := checkT_node h.check hlt hn; cases this
  | cons j t ih =>
    intro done v F h hn
    have hf := checkT_node h.check hlt hn
    by_cases he : j = i
    · subst he; exact ⟨true, done, t, v, h⟩
    · obtain ⟨⟨o, hc⟩, hr⟩ := checkT_cons h.check
      simp only [findT, Bool.or_eq_true, beq_ne he, Bool.false_eq_true, false_or, Bool.and_eq_true] at hf
      rcases hf with hf | ⟨hst, _⟩
      · exact absurd (h.sub j (mask_sound hf h.lclosed hi)) hc.new
      · have hst : isSt T o.op = true := by unfold stAt at hst; rw [hc.get] at hst; exact hst
        have hn' : i ∉ j :: done := by
          intro hm
          rcases List.mem_cons.1 hm with rfl | hm
          · exact he rfl
          · exact hn hm
        rcases treeGo_cons hT hc.get hc.low h.told with ⟨hw, ht⟩ | ⟨hw, _, x, h1, h2, ht⟩ | ⟨_, hs, _⟩
        · exact ih (h.push hc hst undef (fun _ => rfl) (fun e => by rw [hw] at e; cases e) ht) hn'
        · exact ih (h.push hc hst x (fun e => by rw [hw] at e; cases e) (fun _ => ⟨h1, h2⟩) ht) hn'
        · rw [hst] at hs; cases hs
  | fork l r _ _ =>
    intro done v F h hn
    have hf := checkT_node h.check hlt hn
    obtain ⟨rest', h'⟩ := h.head hi (show findH (maskGo ops.toList []) i (.fork l r) = true from hf)
    exact ⟨false, done, rest', v, h'⟩
/-- All that is ready is done: all is done. -/
theorem all_doneT {T : Tab} {ops : Array Oper} {M lo : List Nat} {listed : Array Bool} (hsz : listed.size = ops.size) (h : Region.ready .any ops listed = []) : ∀ (t : DT) (b : Bool) (done : List Nat), checkT T ops M lo t b done = true → (∀ i ∈ done, listed.getD i false = true) → ∀ i, i < ops.size → listed.getD i false = true := by
  intro t
  induction t with
  | nil =>
    intro b done hc hd i hi
    simp only [checkT] at hc
    have := List.all_eq_true.1 hc i (by simpa using hi)
    exact hd i (by simpa using this)
  | cons x t ih =>
    intro b done hc hd i hi
    obtain ⟨⟨o, hk⟩, hr⟩ := checkT_cons hc
    have hx : listed.getD x false = true := by
      cases hl : listed.getD x false with
      | true => rfl
      | false =>
        refine (not_ready h hk.get ?_ (fun e he hb => hd _ (hk.ahead e he hb))).elim
        have hlt : x < listed.size := by rw [hsz]; exact (Array.getElem?_eq_some_iff.1 hk.get).1
        simpa [Array.getD_eq_getD_getElem?, hlt] using hl
    refine ih true (x :: done) hr (fun k hk' => ?_) i hi
    rcases List.mem_cons.1 hk' with rfl | hk'
    · exact hx
    · exact hd k hk'
  | fork l r ihl _ =>
    intro b done hc hd i hi
    simp only [checkT, Bool.and_eq_true] at hc
    exact ihl false done hc.1.2 hd i hi
/-- What is told and pending is done. -/
theorem InvT.exec {P : Program} {T : Tab} {ops : Array Oper} {lo : List Nat} {G : Heap} {b : Bool} {K : Env → Heap → Prop} {env0 : Env} {m0 : Bool} {n : Nat} {w0 : World} {L L' : Nat → Bool} {a : Act} {w w' : World} {done : List Nat} {rest : DT} {v : Nat → Value} {F : Heap} {i : Nat} {o : Oper} {D : Nat → Bool} (h : InvT P T ops lo G K env0 m0 n w0 L a w b done rest v F)
    (hi : i ∈ done) (hp : PendT P T ops lo G env0 done v F i o D) (ha : Ahead ops L i) (hd : dstOk n o = true) (hL : ∀ k, k ≠ i → L' k = L k) (hLi : L' i = true) (hw : Has F w') (hrw : Rest w w') : InvT P T ops lo G K env0 m0 n w0 L' (a.put o.dst (v i)) w' b done rest v F := by
  have hag := h.ag.put hd (v i)
  have hr := h.rst.trans hrw
  have hh := h.held.mono hrw
  have hL1 : ∀ k, L k = true → L' k = true := fun k hk => by
    by_cases e : k = i
    · rw [e]; exact hLi
    · rw [hL k e]; exact hk
  have hL2 : ∀ k, L' k = true → k = i ∨ L k = true := fun k hk => by
    by_cases e : k = i
    · exact .inl e
    · rw [hL k e] at hk; exact .inr hk
  refine ⟨h.check, h.got, h.closed, fun k hk => ?_, fun k p hp' hk e he hb => ?_, hag.size, by rw [put_defers]; exact hh, fun t => ?_, h.told, hw, floor_up h.floor hL hLi, hr, fun k hk hLk => ?_⟩
  · rcases hL2 k hk with rfl | hk
    · exact hi
    · exact h.sub k hk
  · rcases hL2 k hk with rfl | hk
    · exact hL1 _ (ha p hp' e he hb)
    · exact hL1 _ (h.lclosed k p hp' hk e he hb)
  · rw [hag.tmp t, WV_set (v' := v) hp.get hp.uniq hL hLi (fun _ _ => rfl)]
  · refine h.pend k hk ?_
    cases e : L k with
    | false => rfl
    | true => rw [hL1 k e] at hLk; cases hLk
theorem InvT.move {P : Program} {T : Tab} {ops : Array Oper} {lo : List Nat} {G : Heap} {b : Bool} {K : Env → Heap → Prop} {env0 : Env} {m0 : Bool} {n : Nat} {w0 : World} {L L' : Nat → Bool} {a : Act} {w w' : World} {done : List Nat} {rest : DT} {v : Nat → Value} {F F' : Heap} {i : Nat} {o : Oper} (h : InvT P T ops lo G K env0 m0 n w0 L a w b done (.cons i rest) v F)
    (hc : ChkT T ops (maskGo ops.toList []) lo done i o) (ha : Ahead ops L i) (hd : dstOk n o = true) (hL : ∀ k, k ≠ i → L' k = L k) (hLi : L' i = true) (x : Value) (hw : Has F' w') (hrw : Rest w w')
    (ht : treeGo P T ops (maskGo ops.toList []) lo G K rest (i :: done) ((WV ops env0 (fun k => done.contains k) v).set o.dst x) F') (hfl : (∀ j, lo.contains j = true → j < ops.size → L' j = true) ∨ Ext G F')
    (hkeep : (∀ k ∈ done, L k = false → ∀ p, ops[k]? = some p → isSt T p.op = true → isPl T p.op = true ∨ lo.contains k = true) ∨ Ext F F') :
    InvT P T ops lo G K env0 m0 n w0 L' (a.put o.dst x) w' true (i :: done) rest (fun k => if k = i then x else v k) F' := by
  have hag := h.ag.put hd x
  have hr := h.rst.trans hrw
  have hh := h.held.mono hrw
  have hL0 : L i = false := by
    cases e : L i with
    | false => rfl
    | true => exact absurd (h.sub i e) hc.new
  have hvv : ∀ k, k ≠ i → (fun k => if k = i then x else v k) k = v k := fun k hk => by simp [hk]
  have huniq : ∀ k p t, ops[k]? = some p → k ≠ i → p.dst = some t → ∀ d, o.dst = some d → d ≠ t := fun k p t hp hk ht => (hc.apart k p t hp hk ht).2
  have hL1 : ∀ k, L k = true → L' k = true := fun k hk => by
    by_cases e : k = i
    · rw [e]; exact hLi
    · rw [hL k e]; exact hk
  have hL2 : ∀ k, L' k = true → k = i ∨ L k = true := fun k hk => by
    by_cases e : k = i
    · exact .inl e
    · rw [hL k e] at hk; exact .inr hk
  refine ⟨(checkT_cons h.check).2, fun k hk => ?_, fun k p hp hk e he hb => ?_, fun k hk => ?_, fun k p hp' hk e he hb => ?_, hag.size, by rw [put_defers]; exact hh, fun t => ?_, ?_, hw, hfl, hr, fun k hk hLk => ?_⟩
  · rcases List.mem_cons.1 hk with rfl | hk
    · exact ⟨o, hc.get⟩
    · exact h.got k hk
  · have hk : k ∈ i :: done := by simpa using hk
    have : e.on ∈ i :: done := by
      rcases List.mem_cons.1 hk with rfl | hk
      · rw [hc.get] at hp; obtain rfl := Option.some.inj hp
        exact List.mem_cons_of_mem _ (hc.ahead e he hb)
      · have := h.closed k p hp (by simpa using hk) e he hb
        exact List.mem_cons_of_mem _ (by simpa using this)
    simpa using this
  · rcases hL2 k hk with rfl | hk
    · simp
    · exact List.mem_cons_of_mem _ (h.sub k hk)
  · rcases hL2 k hk with rfl | hk
    · exact hL1 _ (ha p hp' e he hb)
    · exact hL1 _ (h.lclosed k p hp' hk e he hb)
  · have := WV_set (v' := fun k => if k = i then x else v k) hc.get huniq (env0 := env0) (S := L) (S' := L') (v := v) hL hLi hvv
    simp only [if_true] at this
    rw [hag.tmp t, this]
  · have := WV_set (v' := fun k => if k = i then x else v k) hc.get huniq (env0 := env0) (S := fun k => done.contains k) (S' := fun k => (i :: done).contains k) (v := v) (fun k hk => by simp [hk]) (by simp) hvv
    simp only [if_true] at this
    rw [← this]
    exact ht
  · have hki : k ≠ i := by rintro rfl; rw [hLi] at hLk; cases hLk
    have hk : k ∈ done := by
      rcases List.mem_cons.1 hk with rfl | hk
      · exact absurd rfl hki
      · exact hk
    rw [hL k hki] at hLk
    obtain ⟨p, D, hp⟩ := h.pend k hk hLk
    have hDi' : D i = false := by
      cases hD : D i with
      | false => rfl
      | true => exact absurd (hp.sub i hD) hc.new
    refine ⟨p, D, hp.get, hp.still, hp.plain, hp.apart, hp.uniq, hp.anc, hp.des, hp.self, fun k' hk' => List.mem_cons_of_mem _ (hp.sub k' hk'), ?_, ?_, ?_⟩
    · rw [WV_new hDi' hvv]; intro hw; simp only [hki, if_false]; exact hp.skip hw
    · rw [WV_new hDi' hvv]
      intro hw H hG
      simp only [hki, if_false]
      rcases hkeep with hv | hF
      · rcases hv k hk hLk p hp.get hp.still with hv | hv
        · exact hp.pure hw hv H
        · refine hp.run hw H (base_ext ?_ (fun e => by rw [hv] at e; cases e))
          have := hG
          unfold baseT at this
          rw [hv, cond_true] at this
          exact this
      · refine hp.run hw H ?_
        unfold baseT at hG ⊢
        cases e : lo.contains k with
        | true => rw [e, cond_true] at hG; exact hG
        | false => rw [e, cond_false] at hG; exact hF.trans hG
    · rw [WV_new hDi' hvv]; intro hw hV F'; simp only [hki, if_false]; exact hp.pure hw hV F'
theorem any_of_invT {P : Program} {T : Tab} (hT : TabOk P T) {ops : Array Oper} {lo : List Nat} {G : Heap} {σ : DT} (hchk : checkT T ops (maskGo ops.toList []) lo σ true [] = true) {K : Env → Heap → Prop} {Q : Exit → Env → Heap → Prop} (hQ : ∀ env F, K env F → Q .normal env F) {env0 : Env} {m0 : Bool} {n : Nat} {w0 : World} (hd : ∀ o ∈ ops.toList, dstOk n o = true) :
    ∀ (fuel : Nat) (listed : Array Bool) (a : Act) (w : World) (done : List Nat) (rest : DT) (v : Nat → Value) (F : Heap), InvT P T ops lo G K env0 m0 n w0 (fun i => listed.getD i false) a w true done rest v F → listed.size = ops.size →
      ((List.range ops.size).filter fun k => !listed.getD k false).length ≤ fuel → wpAny P .any ops (up m0 n w0 Q) fuel listed a w := by
  have fin : ∀ (listed : Array Bool) (a : Act) (w : World) (done : List Nat) (rest : DT) (v : Nat → Value) (F : Heap), InvT P T ops lo G K env0 m0 n w0 (fun i => listed.getD i false) a w true done rest v F → listed.size = ops.size → Region.ready .any ops listed = [] → up m0 n w0 Q .normal a w := by
    intro listed a w done rest v F h hsz hr
    have hl : ∀ i, i < ops.size → listed.getD i false = true := all_doneT hsz hr σ true [] hchk (fun _ h => by cases h)
    have end_ : ∀ (t : DT) (b : Bool), checkT T ops (maskGo ops.toList []) lo t b done = true → treeGo P T ops (maskGo ops.toList []) lo G K t done (WV ops env0 (fun k => done.contains k) v) F → K (WV ops env0 (fun k => done.contains k) v) F := by
      intro t
      induction t with
      | nil => intro b _ h; exact h
      | cons x t _ =>
        intro b hc _
        obtain ⟨⟨o, hc⟩, _⟩ := checkT_cons hc
        exact absurd (h.sub x (hl x (Array.getElem?_eq_some_iff.1 hc.get).1)) hc.new
      | fork l r ihl _ =>
        intro b hc ht
        simp only [checkT, Bool.and_eq_true] at hc
        exact ihl false hc.1.2 ht.1
    have ht := end_ rest true h.check h.told
    refine ⟨_, F, h.ag, h.held, h.has, h.rst, hQ _ _ ?_⟩
    have : WV ops env0 (fun i => listed.getD i false) v = WV ops env0 (fun k => done.contains k) v := by
      funext t
      refine WV_congr fun k hk => ⟨?_, fun _ => rfl⟩
      obtain ⟨_, _, _, hlt⟩ := writer_some hk
      have h1 := hl k hlt
      have h2 := h.sub k h1
      show listed.getD k false = done.contains k
      rw [h1]
      exact (by simpa using h2 : done.contains k = true).symm
    rw [this]
    exact ht
  intro fuel
  induction fuel with
  | zero =>
    intro listed a w done rest v F h hsz hc
    have hl : ∀ i, i < ops.size → listed.getD i false = true := fun i hi => by
      cases e : listed.getD i false with
      | true => rfl
      | false =>
        have : i ∈ (List.range ops.size).filter fun k => !listed.getD k false := by rw [List.mem_filter]; exact ⟨by simpa using hi, by rw [e]; rfl⟩
        rw [List.eq_nil_of_length_eq_zero (Nat.le_zero.1 hc)] at this
        cases this
    have hr : Region.ready .any ops listed = [] := by
      cases hr : Region.ready .any ops listed with
      | nil => rfl
      | cons x l =>
        obtain ⟨h1, h2, _⟩ := ready_of (by rw [hr]; simp : x ∈ Region.ready .any ops listed)
        have h3 := hl x h1
        rw [Array.getD_eq_getD_getElem?] at h2 h3
        rw [Array.getElem?_eq_getElem (by omega)] at h2 h3
        simp only [Option.getD_some] at h2 h3
        rw [h2] at h3; cases h3
    exact ⟨hr, fin listed a w done rest v F h hsz hr⟩
  | succ fuel ih =>
    intro listed a w done rest v F h hsz hcount
    refine ⟨fun hr => fin listed a w done rest v F h hsz hr, fun i hi => ?_⟩
    obtain ⟨hlt, hl, o, ho, hah⟩ := ready_of hi
    have hLi : listed.getD i false = false := by
      rw [Array.getD_eq_getD_getElem?, Array.getElem?_eq_getElem (by omega)] at hl ⊢
      exact hl
    have hahead : Ahead ops (fun k => listed.getD k false) i := fun p hp e he hb => by rw [ho] at hp; obtain rfl := Option.some.inj hp; exact hah e he hb
    have hdo : dstOk n o = true := hd o (List.mem_of_getElem? (by simpa using ho))
    have hL1 : ∀ k, k ≠ i → (listed.setIfInBounds i true).getD k false = listed.getD k false := fun k hk => by simp [Array.getD_eq_getD_getElem?, Ne.symm hk]
    have hL2 : (listed.setIfInBounds i true).getD i false = true := by simp [Array.getD_eq_getD_getElem?, hsz, hlt]
    have hcnt : ((List.range ops.size).filter fun k => !(listed.setIfInBounds i true).getD k false).length ≤ fuel := by
      have := count_set hlt hLi hsz
      omega
    -- an operation that is told: it is done
    have old2 : ∀ (done : List Nat) (rest : DT) (v : Nat → Value) (F : Heap), InvT P T ops lo G K env0 m0 n w0 (fun i => listed.getD i false) a w true done rest v F → i ∈ done → wpOp P ops (up m0 n w0 Q) i (wpAny P .any ops (up m0 n w0 Q) fuel (listed.setIfInBounds i true)) a w := by
      intro done rest v F h hid
      obtain ⟨o', D, hp⟩ := h.pend i hid hLi
      have : o' = o := by have := hp.get; rw [ho] at this; exact (Option.some.inj this).symm
      subst this
      have hagr : ∀ t ∈ o'.looksAt ops, WV ops env0 (fun k => listed.getD k false) v t = WV ops env0 D v t := fun t ht => by
        refine agree hp.apart (fun k hk => ⟨mask_sound hk h.lclosed hahead, hp.anc k hk⟩) (fun k hk => ⟨?_, ?_⟩) ⟨hLi, hp.self⟩ ht
        · cases e : listed.getD k false with
          | false => rfl
          | true =>
            have := mask_sound hk h.lclosed (fun p hp' e' he hb => h.lclosed k p hp' e e' he hb)
            rw [hLi] at this; cases this
        · cases e : D k with
          | false => rfl
          | true => have := hp.des k e; rw [hk] at this; cases this
      unfold wpOp
      rw [ho]
      dsimp only
      rw [wanted_of h.ag, wantedE_agree hagr]
      cases hw : wantedE ops (WV ops env0 D v) o' with
      | false =>
        rw [if_neg (by decide), ← hp.skip hw]
        exact ih _ _ _ done rest v F (h.exec hid hp hahead hdo hL1 hL2 h.has (Rest.refl _)) (by simpa using hsz) hcnt
      | true =>
        rw [if_pos rfl]
        have hrun := (opW_congr hp.plain (ev_agree hagr)).2 (hp.run hw F (base_ext' (fun hl => h.floor.resolve_left fun hf => absurd (hf i hl hlt) (by rw [hLi]; decide)) (fun _ => Ext.refl F)))
        refine .inl (opW_sound hrun h.ag h.has fun u F' w' hu hF' hr' => ?_)
        obtain ⟨rfl, rfl⟩ := hu
        exact ih _ _ _ done rest v F' (h.exec hid hp hahead hdo hL1 hL2 hF' hr') (by simpa using hsz) hcnt
    by_cases hid : i ∈ done
    · exact old2 _ _ _ _ h hid
    · obtain ⟨b, done, rest, v, h⟩ := h.reach hT hahead hlt rest hid
      obtain ⟨⟨o', hc⟩, hr⟩ := checkT_cons h.check
      have : o' = o := by have := hc.get; rw [ho] at this; exact (Option.some.inj this).symm
      subst this
      have hagr : ∀ t ∈ o'.looksAt ops, WV ops env0 (fun k => listed.getD k false) v t = WV ops env0 (fun k => done.contains k) v t := fun t ht => by
        refine agree (fun k p t hp hk hpt ht => (hc.apart k p t hp hk hpt).1 ht) (fun k hk => ⟨mask_sound hk h.lclosed hahead, ?_⟩) (fun k hk => ⟨?_, ?_⟩) ⟨hLi, by simpa using hc.new⟩ ht
        · exact mask_sound hk h.closed (fun p hp e he hb => by rw [hc.get] at hp; obtain rfl := Option.some.inj hp; simpa using hc.ahead e he hb)
        · cases e : listed.getD k false with
          | false => rfl
          | true =>
            have := mask_sound hk h.lclosed (fun p hp' e' he hb => h.lclosed k p hp' e e' he hb)
            rw [hLi] at this; cases this
        · cases e : done.contains k with
          | false => rfl
          | true =>
            have : done.contains i = true := mask_sound hk h.closed (fun p hp' e' he hb => h.closed k p hp' e e' he hb)
            exact absurd (by simpa using this) hc.new
      rcases treeGo_cons hT hc.get hc.low h.told with ⟨hw, ht⟩ | ⟨hw, hst, x, h1, h2, ht⟩ | ⟨hw, hst, hrun⟩
      · unfold wpOp
        rw [ho]
        dsimp only
        rw [wanted_of h.ag, wantedE_agree hagr, hw, if_neg (by decide)]
        exact ih _ _ _ _ _ _ F (h.move hc hahead hdo hL1 hL2 undef h.has (Rest.refl _) ht (floor_up h.floor hL1 hL2) (.inr (Ext.refl F))) (by simpa using hsz) hcnt
      · exact old2 _ _ _ _ (h.push hc hst x (fun e => by rw [hw] at e; cases e) (fun _ => ⟨h1, h2⟩) ht) (by simp)
      · unfold wpOp
        rw [ho]
        dsimp only
        rw [wanted_of h.ag, wantedE_agree hagr, hw, if_pos rfl]
        have hrun := (opW_congr hc.plain (ev_agree hagr)).2 hrun
        refine .inl (opW_sound hrun h.ag h.has fun x F' w' hu hF' hr' => ?_)
        obtain ⟨hfl, hk, ht⟩ := hu
        refine ih _ _ _ _ _ _ F' (h.move hc hahead hdo hL1 hL2 x hF' hr' ht ?hfl ?_) (by simpa using hsz) hcnt
        case hfl =>
          rcases hfl with hof | hG
          · refine .inl fun j h1 h2 => ?_
            unfold offT at hof
            have := List.all_eq_true.1 (Bool.and_eq_true_iff.1 hof).2 j (by simpa using h1)
            rw [Bool.or_eq_true, Bool.and_eq_true] at this
            rcases this with g | ⟨_, g⟩
            · exact absurd (Nat.le_of_ble_eq_true g) (by omega)
            · have hLj := mask_sound g h.lclosed hahead
              by_cases e : j = i
              · rw [e]; exact hL2
              · rw [hL1 j e]; exact hLj
          · exact .inr hG
        rcases hk with hs | hF
        · refine .inl fun k hk hLk p hp hst' => ?_
          have := List.all_eq_true.1 hs k hk
          rw [hp] at this
          simp only [Bool.or_eq_true] at this
          rcases this with ((g | g) | g) | g
          · exact .inl g
          · rw [hst'] at g; cases g
          · exact .inr g
          · have := mask_sound g h.lclosed hahead
            rw [hLk] at this; cases this
        · exact .inr hF
def treeOk (T : Tab) (ops : Array Oper) (lo : List Nat) (σ : DT) : Bool := checkT T ops (maskGo ops.toList []) lo σ true []
/-- A region that draws its order, told as a tree; what stands in lo is told by memory as it was when the region began. -/
theorem draw_tree_at {P : Program} {T : Tab} (hT : TabOk P T) (hm : P.follows .mixedOrders = true) {ops : Array Oper} (lo : List Nat) (σ : DT) (hok : treeOk T ops lo σ = true) {K : Env → Heap → Prop} {env : Env} {F : Heap} (G : Heap) (hG : Ext G F)
    (h : treeGo P T ops (maskGo ops.toList []) lo G K σ [] env F) : DrawK P T ops K env F := by
  refine ⟨fun m0 n a w w0 id Q hd hQ ha hh hw hr => ?_⟩
  refine wp_region_any hm ?_
  have h0 : ∀ k, (Array.replicate ops.size false).getD k false = false := fun k => by
    rw [Array.getD_eq_getD_getElem?, Array.getElem?_replicate]
    split <;> rfl
  have hWV : ∀ S : Nat → Bool, (∀ k, S k = false) → WV ops env S (fun _ => undef) = env := fun S hS => by
    funext t
    unfold WV
    cases writer ops t with
    | none => rfl
    | some k => dsimp only; rw [hS k]; rfl
  refine any_of_invT hT hok hQ hd ops.size _ a _ [] σ (fun _ => undef) F (env0 := env) ⟨hok, fun _ h => by (cases h), fun k o _ hk => by simp at hk, fun i hi => ?_, fun k o _ hk => ?_, ha.size, hh.mono ⟨rfl, rfl, rfl, Nat.le_refl _, fun _ h => h⟩, fun t => ?_, ?_, hw.of_heap rfl, .inr hG, hr.trans ⟨rfl, rfl, rfl, Nat.le_refl _, fun _ h => h⟩, fun _ h => by (cases h)⟩ (by simp) ?_
  · rw [h0 i] at hi; cases hi
  · rw [h0 k] at hk; cases hk
  · rw [ha.tmp t, hWV _ h0]
  · rw [hWV _ (fun k => by simp)]; exact h
  · exact Nat.le_trans (List.length_filter_le _ _) (by simp)
/-- .. by memory as it was when the region began. -/
theorem draw_tree {P : Program} {T : Tab} (hT : TabOk P T) (hm : P.follows .mixedOrders = true) {ops : Array Oper} (lo : List Nat) (σ : DT) (hok : treeOk T ops lo σ = true) {K : Env → Heap → Prop} {env : Env} {F : Heap}
    (h : treeGo P T ops (maskGo ops.toList []) lo F K σ [] env F) : DrawK P T ops K env F := draw_tree_at hT hm lo σ hok F (Ext.refl F) h
/-- One block alone. -/
def Heap.only (F : Heap) (b : Nat) : Heap := fun c => if c = b then F b else none
end Go.Al
/- The logic of a known part of memory, 11: rows of numbers and of bytes among a law's arguments. It holds for every program. -/
namespace Go.Al
open Go Go.RowKit

theorem ext_put_put {F : Heap} {p : Nat} {o o' : Obj} (hp : F p = none) : Ext F ((F.put p o).put p o') := by
  intro b u hb
  have hne : b ≠ p := fun e => by rw [e, hp] at hb; cases hb
  rw [Heap.put_other _ _ hne, Heap.put_other _ _ hne]
  exact hb
/-- The slots that are read later, and no others: a long environment made short. -/
theorem short {X : Env → Heap → Prop} {env : Env} {F : Heap} (ss : List Nat) (vs : List Value) (hv : ss.map env = vs) (h : ∀ ρ : Env, X (slotsE ρ ss vs) F) : X env F := by
  have := h env
  rw [← hv, slotsE_self] at this
  exact this
end Go.Al
/- Numbers and their bytes, in plain words: one, two, four or eight bytes, the highest first. -/
namespace Go.Al
open Go Go.RowKit

def bytesOf (l : List UInt8) : List Value := l.map fun x => .int .u8 x.toNat
/-- The byte of n that stands k bytes ahead of the last. -/
def byteAt (n : Int) (k : Nat) : UInt8 := UInt8.ofNat ((n % 18446744073709551616).toNat / 256 ^ k)
def beM : Nat → Int → List UInt8
  | 0, _ => []
  | m + 1, n => byteAt n m :: beM m n
def inM (m : Nat) (n : Int) : Bool := bif Nat.beq m 8 then true else decide (0 ≤ n) && decide (n < (256 ^ m : Nat))
def putM (m : Nat) (l : List UInt8) (n : Int) : List UInt8 := bif inM m n then l ++ beM m n else l
abbrev Siz (m : Nat) : Prop := m = 1 ∨ m = 2 ∨ m = 4 ∨ m = 8
/-- The number that bytes are. -/
def gB (l : List UInt8) : Nat := l.foldl (fun n x => n * 256 + x.toNat) 0
def getV (l : List UInt8) : Int := IntKind.i64.wrap ((gB l : Nat) : Int)
end Go.Al
/- The logic of a known part of memory, 12: rows whose elements take several cells. It holds for every program. -/
namespace Go.Al
open Go Go.RowKit

theorem cell_block {F : Heap} {a : Addr} {v : Value} (h : F.cell? a = some v) : ∃ c e fz, F a.block = some (.cells c e fz) ∧ a.spot = none ∧ c[a.off]? = some v := by
  unfold Heap.cell? at h
  split at h
  · next c e fz hb =>
    split at h
    · cases h
    · next hs => exact ⟨c, e, fz, hb, by simpa using hs, h⟩
  · cases h
theorem add_parts (a : Addr) (i : Nat) : (a.add i).block = a.block ∧ (a.add i).off = a.off + i := by
  unfold Addr.add
  split
  · next h => subst h; exact ⟨rfl, rfl⟩
  · exact ⟨rfl, rfl⟩
/-- An element of n cells, read as one. -/
theorem loads_row {F : Heap} {a : Addr} {vs : List Value} {n i : Nat} {K : Value → Prop} (hr : RowAt F (some a) vs) (hn : 0 < n) (hi : i + n ≤ vs.length) (hk : K (.agg ((vs.drop i).take n).toArray)) : LoadsK F (a.add i) n K := by
  have cell : ∀ j, j < n → ∃ v, vs[i + j]? = some v ∧ F.cell? (a.add (i + j)) = some v := fun j hj => by
    have : vs[i + j]? = some (vs[i + j]'(by omega)) := List.getElem?_eq_getElem (by omega)
    exact ⟨_, this, hr.cell this⟩
  obtain ⟨v0, h0, hc0⟩ := cell 0 hn
  rw [Nat.add_zero] at h0 hc0
  obtain ⟨c, e, fz, hb, hs, hv⟩ := cell_block hc0
  obtain ⟨hbl, hoff⟩ := add_parts a i
  have all : ∀ j, j < n → c[(a.add i).off + j]? = vs[i + j]? := fun j hj => by
    obtain ⟨v, h1, h2⟩ := cell j hj
    obtain ⟨c', e', fz', hb', hs', hv'⟩ := cell_block h2
    obtain ⟨hbl', hoff'⟩ := add_parts a (i + j)
    rw [hbl'] at hb'
    rw [hbl] at hb
    rw [hb] at hb'
    injection hb' with hb'
    injection hb' with e1
    subst e1
    rw [h1, ← hv', hoff, hoff', Nat.add_assoc]
  have hsz : (a.add i).off + n ≤ c.size := by
    have h1 := all (n - 1) (by omega)
    obtain ⟨v, h2, _⟩ := cell (n - 1) (by omega)
    rw [h2] at h1
    have := (Array.getElem?_eq_some_iff.1 h1).1
    omega
  refine ⟨⟨c, e, fz, hb, hs, hsz, ?_⟩⟩
  have : c.extract (a.add i).off ((a.add i).off + n) = ((vs.drop i).take n).toArray := by
    apply Array.ext'
    apply List.ext_getElem?
    intro j
    rw [Array.toList_extract, List.extract_eq_take_drop, List.getElem?_take, List.toList_toArray, List.getElem?_take]
    rw [show (a.add i).off + n - (a.add i).off = n by omega]
    by_cases hj : j < n
    · rw [if_pos hj, if_pos hj, List.getElem?_drop, List.getElem?_drop]
      have := all j hj
      simpa using this
    · rw [if_neg hj, if_neg hj]
  rw [this]
  exact hk
/-- A row that reads as these bytes. -/
def Bs (F : Heap) (v : Value) (bs : List UInt8) : Prop := ∃ A c, v = .slice A bs.length c ∧ bs.length ≤ c ∧ RowAt F A (bytesOf bs)
theorem Bs.mono {F G : Heap} {v : Value} {bs : List UInt8} (h : Bs F v bs) (hE : Ext F G) : Bs G v bs := by
  obtain ⟨A, c, h1, h2, h3⟩ := h
  exact ⟨A, c, h1, h2, h3.mono hE⟩
theorem Bs.nil (F : Heap) : Bs F (.slice none 0 0) [] := ⟨none, 0, rfl, Nat.le_refl _, RowAt.nil _ _⟩
theorem Mine.down {F G F' : Heap} {s : Value} {e z n : Nat} {vs : List Value} (h : Mine G F' s e z n vs) (hE : Ext F G) : Mine F F' s e z n vs := by
  refine ⟨h.own, fun b hb => ?_, hE.trans h.ext⟩
  cases e0 : F b with
  | none => rfl
  | some o =>
    have := h.fresh b hb
    rw [hE b o e0] at this
    cases this
theorem Keeps.trans {F G H : Heap} {w : Option Nat} (h : Keeps F G w) (k : Keeps G H w) : Keeps F H w := fun c o hc hw => k c o (h c o hc hw) hw
theorem Mine.put {F0 F : Heap} {S : Value} {e z n : Nat} {vs : List Value} {w : Nat} (h : Mine F0 F S e z n vs) (h0 : F0 w = none) (hb : blk S ≠ some w) (o : Obj) : Mine F0 (F.put w o) S e z n vs := by
  refine ⟨h.own.of_blk fun q u hq hu => ?_, h.fresh, h.ext.put h0 _⟩
  have hne : q ≠ w := fun e => hb (by rw [hq, e])
  rw [Heap.put_other _ _ hne]; exact hu
theorem Mine.keeps {F0 F F' : Heap} {S : Value} {e z n : Nat} {vs : List Value} {r : Nat} (h : Mine F0 F S e z n vs) (hb : blk S ≠ some r) (hk : Keeps F F' (some r)) (h0 : F0 r = none) : Mine F0 F' S e z n vs := by
  refine ⟨h.own.of_blk fun q u hq hu => hk _ _ hu fun e => hb (by rw [hq, e]), h.fresh, hk.ext h.ext fun k hk' => ?_⟩
  obtain rfl := Option.some.inj hk'
  exact h0
/-- Numbers behind bytes. -/
def putAllM (m : Nat) (bs : List UInt8) (l : List Int) : List UInt8 := l.foldl (putM m) bs
end Go.Al
/- The logic of a known part of memory, 14: what is at hand often. It holds for every program. -/
namespace Go.Al
open Go

theorem wrap_succ {j : Nat} (h : j < 1000000000) : IntKind.i64.wrap ((j : Int) + 1) = ((j + 1 : Nat) : Int) := by
  rw [IntKind.wrap_i64]; omega
theorem load_at {F : Heap} {a : Addr} {K : Value → Prop} {v : Value} {c : Array Value} {e : TypeId} {fz : Nat × Nat} {b off : Nat} (ha : a = ⟨b, off, none⟩) (hb : F b = some (.cells c e fz)) (hv : c[off]? = some v) (hk : K v) : LoadK F a K := by
  subst ha
  exact load_blk hb rfl hv hk
theorem loads_at {F : Heap} {a : Addr} {n : Nat} {K : Value → Prop} {c : Array Value} {e : TypeId} {fz : Nat × Nat} {b : Nat} (ha : a = ⟨b, 0, none⟩) (hb : F b = some (.cells c e fz)) (hn : c.size = n) (hk : K (.agg c)) : LoadsK F a n K := by
  subst ha
  refine ⟨⟨c, e, fz, hb, rfl, by show 0 + n ≤ c.size; omega, ?_⟩⟩
  show K (.agg (c.extract 0 (0 + n)))
  rw [Nat.zero_add, ← hn, Array.extract_size]
  exact hk
theorem row_blk {F : Heap} {b : Nat} {cs : Array Value} {e : TypeId} {fz : Nat × Nat} (h : F b = some (.cells cs e fz)) : RowAt F (some ⟨b, 0, none⟩) cs.toList := fun j v hj => ⟨_, rfl, by rw [add_plain, Heap.cell_at h, Nat.zero_add, ← Array.getElem?_toList]; exact hj⟩
theorem Ext.none {F G : Heap} (h : Ext F G) {b : Nat} (hb : G b = none) : F b = none := by
  cases e : F b with
  | none => rfl
  | some o => rw [h _ _ e] at hb; cases hb
/-- F without some blocks. -/
def lessL (F : Heap) (ms : List Nat) : Heap := fun c => if c ∈ ms then none else F c
theorem Mine.up {F0 G F : Heap} {S : Value} {e z n : Nat} {vs : List Value} (h : Mine F0 F S e z n vs) (hE : Ext G F) (hb : ∀ b, blk S = some b → G b = none) : Mine G F S e z n vs := ⟨h.own, hb, hE⟩
theorem Own.there {F : Heap} {S : Value} {e z n w : Nat} {vs : List Value} (h : Own F S e z n vs) (hw : blk S = some w) : F w ≠ none := by
  rcases h.2 with ⟨h1, _⟩ | ⟨b, c, cs', h1, ⟨fz', hb, _⟩, _⟩
  · subst h1; cases hw
  · subst h1
    obtain rfl : b = w := Option.some.inj hw
    rw [hb]
    simp
/-- A new row of bytes. -/
def NewRow (F F' : Heap) (v : Value) (l : List UInt8) : Prop := ∃ A c, v = .slice A l.length c ∧ l.length ≤ c ∧ RowAt F' A (bytesOf l) ∧ ∀ a, A = some a → F a.block = none
theorem Mine.newRow {F F' : Heap} {v : Value} {l : List UInt8} {e : TypeId} (h : Mine F F' v e 1 l.length (bytesOf l)) : NewRow F F' v l := by
  obtain ⟨A, c, rfl, h1, h2⟩ := h.own.row
  exact ⟨A, c, rfl, h1, h2, fun a ha => by subst ha; exact h.fresh a.block rfl⟩
end Go.Al
/- The logic of a known part of memory, 15: a range over a function. It holds for every program. -/
namespace Go.Al
open Go

/-- Statements that a round's frame is led through here: no order drawn, no jump. -/
def straight : Code → Bool
  | .skip => true
  | .region _ _ draw => !draw
  | .seq a b => straight a && straight b
  | .cond _ a b => straight a && straight b
  | .block _ c => straight c
  | _ => false
section
variable {P : Program} {b : Frame} {a : Act} {k : List Item} {cs : List Frame} {w : World}
end
theorem Has.loop {F : Heap} {w : World} (h : Has F w) {l : Nat} {r : Loop} (hl : F l = some (.loop r)) (r' : Loop) : Has (F.put l (.loop r')) { w with heap := w.heap.setIfInBounds l (.loop r') } := by
  refine h.put ?_ (fun c hc => ?_)
  · have := h.lt hl
    simp [this]
  · simp [Ne.symm hc]
theorem Rest.loop {w : World} {l : Nat} {r : Loop} (h : w.heap[l]? = some (.loop r)) (r' : Loop) : Rest w { w with heap := w.heap.setIfInBounds l (.loop r') } := by
  refine ⟨rfl, rfl, rfl, by simp, fun q hq => ?_⟩
  have hne : l ≠ q := fun e => by subst e; rw [h] at hq; cases hq
  show (w.heap.setIfInBounds l _)[q]? = _
  rw [Array.getElem?_setIfInBounds_ne hne]
  exact hq
def busyL (r : Loop) : Loop := { r with state := .busy }
def overL (r : Loop) : Loop := { r with state := .exhausted }
/-- How a function with ranges over functions hands back: its blocks for calls that were put off are gone. -/
def retM (P : Program) (fn : Func) (F0 : Heap) (R : Value → Heap → Prop) : Exit → Env → Heap → Prop
  | .normal, env, F => ∀ rs : List Nat, (∀ r ∈ rs, F0 r = none) → (∀ r ∈ rs, ∀ o, F r = some o → o = .deferred (some [])) → retV P env (lessL F rs) fn.results.toList (fun v => R v (lessL F rs))
  | .ret, env, F => ∀ rs : List Nat, (∀ r ∈ rs, F0 r = none) → (∀ r ∈ rs, ∀ o, F r = some o → o = .deferred (some [])) → retV P env (lessL F rs) fn.results.toList (fun v => R v (lessL F rs))
  | _, _, _ => False
end Go.Al
/- The logic of a known part of memory, 16: maps whose keys are whole numbers. It holds for every program. -/
namespace Go.Al
open Go
set_option linter.unusedSimpArgs false

/-- What a map holds, in the order in which its keys came. -/
abbrev ML := List (Int × Value)
def mapL (es : List MapEntry) (l : ML) : Prop := es.map (fun e => (e.key, e.val)) = l.map (fun p => (Value.int .i64 p.1, p.2))
def findM (l : ML) (k : Int) : Nat → Option (Nat × Value)
  | i => match l with
    | [] => none
    | p :: l => if k == p.1 then some (i, p.2) else findM l k (i + 1)
def getM (l : ML) (k : Int) : Option Value := (findM l k 0).map (·.2)
def setM (l : ML) (k : Int) (v : Value) : ML := match findM l k 0 with | some (i, _) => l.set i (k, v) | none => l ++ [(k, v)]
theorem findM_cons (p : Int × Value) (l : ML) (k : Int) (i : Nat) : findM (p :: l) k i = if k == p.1 then some (i, p.2) else findM l k (i + 1) := rfl
theorem findNow_ints : ∀ (es : List MapEntry) (l : ML) (k : Int) (i : Nat), mapL es l → Instr.findNow (.int .i64) (.int .i64 k) es i = some (findM l k i) := by
  intro es
  induction es with
  | nil => intro l k i h; cases l with | nil => rfl | cons p l => cases h
  | cons e es ih =>
    intro l k i h
    cases l with
    | nil => cases h
    | cons p l =>
      unfold mapL at h
      rw [List.map_cons, List.map_cons] at h
      injection h with h1 h2
      injection h1 with h3 h4
      have ih := ih l k (i + 1) h2
      unfold Instr.findNow
      rw [h3, findM_cons]
      simp only [Instr.sameNow, if_true]
      cases hk : (k == p.1) with
      | true => simp [h4]
      | false => simpa using ih
theorem findM_some : ∀ (l : ML) (k : Int) (i j : Nat) (v : Value), findM l k i = some (j, v) → i ≤ j ∧ l[j - i]? = some (k, v) := by
  intro l
  induction l with
  | nil => intro k i j v h; cases h
  | cons p l ih =>
    intro k i j v h
    rw [findM_cons] at h
    split at h
    · next hk =>
      injection h with h
      injection h with h1 h2
      subst h1
      rw [beq_iff_eq] at hk
      refine ⟨Nat.le_refl _, ?_⟩
      rw [Nat.sub_self, hk, ← h2]
      rfl
    · obtain ⟨h1, h2⟩ := ih k (i + 1) j v h
      refine ⟨by omega, ?_⟩
      rw [show j - i = (j - (i + 1)) + 1 by omega]
      exact h2
theorem findM_shift : ∀ (l : ML) (k : Int) (i : Nat), (findM l k i).map (·.2) = getM l k := by
  intro l
  induction l with
  | nil => intro k i; rfl
  | cons p l ih =>
    intro k i
    unfold getM
    rw [findM_cons, findM_cons]
    split
    · rfl
    · rw [ih, ih]
theorem getM_cons (p : Int × Value) (l : ML) (k : Int) : getM (p :: l) k = if k = p.1 then some p.2 else getM l k := by
  have : getM (p :: l) k = (findM (p :: l) k 0).map (·.2) := rfl
  rw [this, findM_cons]
  by_cases h : k = p.1
  · rw [if_pos h, if_pos (by rw [beq_iff_eq]; exact h)]; rfl
  · rw [if_neg h, if_neg (by rw [beq_iff_eq]; exact h), findM_shift]
theorem getM_app : ∀ (l : ML) (k k' : Int) (v : Value), findM l k 0 = none → getM (l ++ [(k, v)]) k' = if k' = k then some v else getM l k' := by
  intro l
  induction l with
  | nil => intro k k' v _; rw [List.nil_append, getM_cons]
  | cons p l ih =>
    intro k k' v h
    rw [findM_cons] at h
    split at h
    · cases h
    · next hk =>
      have h' : findM l k 0 = none := by
        have := findM_shift l k (0 + 1)
        rw [h] at this
        cases e : findM l k 0 with
        | none => rfl
        | some q => unfold getM at this; rw [e] at this; cases this
      rw [List.cons_append, getM_cons, getM_cons, ih k k' v h']
      by_cases e1 : k' = p.1
      · have : ¬ k' = k := fun e => hk (by rw [← e, e1]; exact beq_self_eq_true _)
        rw [if_pos e1, if_neg this, if_pos e1]
      · rw [if_neg e1, if_neg e1]
theorem getM_set : ∀ (l : ML) (k k' : Int) (v : Value) (i : Nat) (u : Value), findM l k 0 = some (i, u) → getM (l.set i (k, v)) k' = if k' = k then some v else getM l k' := by
  intro l
  induction l with
  | nil => intro k k' v i u h; cases h
  | cons p l ih =>
    intro k k' v i u h
    rw [findM_cons] at h
    split at h
    · next hk =>
      injection h with h
      injection h with h1 h2
      subst h1
      rw [beq_iff_eq] at hk
      rw [List.set_cons_zero, getM_cons, getM_cons]
      dsimp only
      by_cases e1 : k' = k
      · rw [if_pos e1, if_pos e1]
      · rw [if_neg e1, if_neg e1, if_neg (by rw [← hk]; exact e1)]
    · next hk =>
      have h1 := (findM_some l k (0 + 1) i u h).1
      have h' : ∃ j, i = j + 1 ∧ findM l k 0 = some (j, u) := by
        refine ⟨i - 1, by omega, ?_⟩
        have hs : ∀ (l : ML) (a b : Nat) (q : Nat × Value), findM l k (a + b) = some q → ∃ r, findM l k a = some (r, q.2) ∧ q.1 = r + b := by
          intro l
          induction l with
          | nil => intro a b q h; cases h
          | cons p l ih =>
            intro a b q h
            rw [findM_cons] at h ⊢
            split at h
            · next hk => injection h with h; rw [if_pos hk, ← h]; exact ⟨a, rfl, rfl⟩
            · next hk =>
              rw [if_neg hk]
              rw [show a + b + 1 = (a + 1) + b by omega] at h
              exact ih (a + 1) b q h
        obtain ⟨r, h2, h3⟩ := hs l 0 1 (i, u) h
        rw [h2]
        have : i - 1 = r := by dsimp only at h3; omega
        rw [this]
      obtain ⟨j, rfl, h'⟩ := h'
      rw [List.set_cons_succ, getM_cons, getM_cons, ih k k' v j u h']
      by_cases e1 : k' = p.1
      · have : ¬ k' = k := fun e => hk (by rw [← e, e1]; exact beq_self_eq_true _)
        rw [if_pos e1, if_neg this, if_pos e1]
      · rw [if_neg e1, if_neg e1]
theorem getM_setM (l : ML) (k k' : Int) (v : Value) : getM (setM l k v) k' = if k' = k then some v else getM l k' := by
  unfold setM
  split
  · next i u h => exact getM_set l k k' v i u h
  · next h => exact getM_app l k k' v h
/-- A map in memory. -/
def MapO (o : Obj) (l : ML) : Prop := ∃ es clock, o = .map es clock ∧ mapL es.toList l
def MapAt (F : Heap) (m : Nat) (l : ML) : Prop := ∃ o, F m = some o ∧ MapO o l
theorem MapAt.mono {F G : Heap} {m : Nat} {l : ML} (h : MapAt F m l) (hE : Ext F G) : MapAt G m l := by
  obtain ⟨o, h1, h2⟩ := h
  exact ⟨o, hE _ _ h1, h2⟩
theorem MapAt.put {F : Heap} {m : Nat} {o : Obj} {l : ML} (h : MapO o l) : MapAt (F.put m o) m l := ⟨o, Heap.put_same _ _ _, h⟩
theorem MapAt.other {F : Heap} {m b : Nat} {o : Obj} {l : ML} (h : MapAt F m l) (hne : m ≠ b) : MapAt (F.put b o) m l := by
  obtain ⟨u, h1, h2⟩ := h
  exact ⟨u, (Heap.put_other _ _ hne).trans h1, h2⟩
theorem MapAt.keeps {F F' : Heap} {m : Nat} {b : Option Nat} {l : ML} (h : MapAt F m l) (hk : Keeps F F' b) (hne : b ≠ some m) : MapAt F' m l := by
  obtain ⟨u, h1, h2⟩ := h
  exact ⟨u, hk _ _ h1 hne, h2⟩
theorem wk_checkKey {P : Program} {F : Heap} {t : TypeId} {k : IntKind} (h : P.underlying t = some (.int k)) (b : Bool) (n : Nat) (v : Value) (K : Unit → Heap → Prop) (hk : K () F) : wk P (Instr.checkKey b (n + 1) t v) F K := by
  unfold Instr.checkKey
  rw [wk_bind, wk_underlying h]
  exact hk
theorem op_makeMap {P : Program} {o : Oper} {ev : Operand → Value} {F : Heap} {K : Value → Heap → Prop} {t : TypeId} (ho : o.op = .makeMap t none) (hk : ∀ b, F b = none → K (.map (some b)) (F.put b (.map #[] 0))) : OpK P o ev F K := by
  refine ⟨opW_v (s := Instr.makeMap t none) (by simp only [execOp, ho, Option.map_none]) ?_⟩
  unfold Instr.makeMap
  simp only [wk_bind, wk_pure]
  exact fun b hb => hk b hb
/-- What a look-up hands back. -/
def hitV (z : Value) : Option Value → Value
  | some v => v
  | none => z
theorem op_lookup {P : Program} {T : Tab} (hT : TabOk P T) {o : Oper} {ev : Operand → Value} {F : Heap} {K : Value → Heap → Prop} {t kt et : TypeId} {x i : Operand} {ok : Bool} {m : Nat} {k : Int} {l : ML} {a1 a2 b1 b2 : Nat} {z1 z2 : Option Value} {d : TD} {z : Value}
    (ho : o.op = .lookup t x i ok) (hx : ev x = .map (some m)) (hi : ev i = .int .i64 k) (h1 : T t = some ⟨a1, a2, .map kt et, z1⟩) (h2 : T kt = some ⟨b1, b2, .int .i64, z2⟩) (h3 : T et = some d) (hz : d.zero = some z)
    (hm : MapAt F m l) (hk : K (if ok then .tuple #[hitV z (getM l k), .bool (getM l k).isSome] else hitV z (getM l k)) F) : OpK P o ev F K := by
  obtain ⟨hu1, _⟩ := hT _ _ h1
  obtain ⟨hu2, _⟩ := hT _ _ h2
  obtain ⟨_, ii, hii, _, _, hze⟩ := hT _ _ h3
  obtain ⟨_, hF, es, cl, rfl, hes⟩ := hm
  refine ⟨opW_v (s := Instr.lookup t (ev x) (ev i) ok) (by simp only [execOp, ho]) ?_⟩
  rw [hx, hi]
  unfold Instr.lookup
  rw [wk_bind, wk_underlying hu1]
  dsimp only
  simp only [wk_bind]
  refine ⟨_, hF, (by intro c e fz h; cases h), ?_⟩
  rw [wk_pure']
  simp only [wk_bind, wk_pure]
  refine wk_checkKey hu2 _ _ _ _ ?_
  unfold Instr.findKey
  rw [wk_bind, wk_underlying hu2, findNow_ints es.toList l k 0 hes]
  simp only [wk_pure]
  unfold getM at hk
  cases hf : findM l k 0 with
  | none =>
    rw [hf] at hk
    simp only [wk_bind, wk_zeroValue hii (hze.trans hz), wk_pure]
    exact hk
  | some q =>
    rw [hf] at hk
    simp only [wk_bind, wk_pure]
    exact hk
theorem mapL_get {es : List MapEntry} {l : ML} (h : mapL es l) {i : Nat} {k : Int} {v : Value} (hl : l[i]? = some (k, v)) : ∃ e, es[i]? = some e ∧ e.key = .int .i64 k ∧ e.val = v := by
  have := congrArg (fun x => x[i]?) h
  simp only [List.getElem?_map, hl, Option.map_some] at this
  obtain ⟨e, h1, h2⟩ := Option.map_eq_some_iff.1 this
  injection h2 with h3 h4
  exact ⟨e, h1, h3, h4⟩
end Go.Al
/- The logic of a known part of memory, 17: a part D of what is known that belongs to one thing ('territory'): what is done to the thing leaves all else as it was. And a copy to a place. It holds for every program. -/
namespace Go.Al
open Go

/-- From D within F to D' within F': what is known outside D stays, and D' grows by blocks alone that were not known. -/
structure Moves (D F D' F' : Heap) : Prop where
  inn : Ext D' F'
  out : ∀ c o, F c = some o → D c = none → F' c = some o
  new : ∀ c, D' c ≠ none → D c ≠ none ∨ F c = none
theorem Moves.refl {D F : Heap} (h : Ext D F) : Moves D F D F := ⟨h, fun _ _ h _ => h, fun _ h => .inl h⟩
theorem Moves.trans {D F D1 F1 D2 F2 : Heap} (h : Moves D F D1 F1) (k : Moves D1 F1 D2 F2) : Moves D F D2 F2 := by
  have hn : ∀ c o, F c = some o → D c = none → D1 c = none := fun c o hc hd => by
    cases e : D1 c with
    | none => rfl
    | some u =>
      rcases h.new c (by rw [e]; simp) with h1 | h1
      · exact absurd hd h1
      · rw [h1] at hc; cases hc
  refine ⟨k.inn, fun c o hc hd => k.out c o (h.out c o hc hd) (hn c o hc hd), fun c hc => ?_⟩
  rcases k.new c hc with h1 | h1
  · exact h.new c h1
  · cases e : F c with
    | none => exact .inr rfl
    | some o =>
      cases e2 : D c with
      | none => rw [h.out c o e e2] at h1; cases h1
      | some u => exact .inl (by simp)
theorem Moves.put {D F : Heap} (h : Ext D F) {b : Nat} (hb : D b ≠ none ∨ F b = none) (o : Obj) : Moves D F (D.put b o) (F.put b o) := by
  refine ⟨fun c u hc => ?_, fun c u hc hd => ?_, fun c hc => ?_⟩
  · by_cases e : c = b
    · subst e; rw [Heap.put_same] at hc ⊢; exact hc
    · rw [Heap.put_other _ _ e] at hc ⊢; exact h c u hc
  · have : c ≠ b := by
      rintro rfl
      rcases hb with hb | hb
      · exact hb hd
      · rw [hb] at hc; cases hc
    rw [Heap.put_other _ _ this]; exact hc
  · by_cases e : c = b
    · subst e; exact hb
    · rw [Heap.put_other _ _ e] at hc; exact .inl hc
/-- What is new, and belongs to nobody. -/
theorem Moves.ext {D F F' : Heap} (h : Ext D F) (k : Ext F F') : Moves D F D F' := ⟨h.trans k, fun c o hc _ => k c o hc, fun _ h => .inl h⟩
/-- What is new, taken into D. -/
def gain (D F F' : Heap) : Heap := fun c => match F c with | none => F' c | some _ => D c
theorem gain_old {D F F' : Heap} {c : Nat} {o : Obj} (h : F c = some o) : gain D F F' c = D c := by unfold gain; rw [h]
theorem gain_new {D F F' : Heap} {c : Nat} (h : F c = none) : gain D F F' c = F' c := by unfold gain; rw [h]
theorem Moves.gain {D F F' : Heap} (h : Ext D F) (k : Ext F F') : Moves D F (gain D F F') F' := by
  refine ⟨fun c o hc => ?_, fun c o hc _ => k c o hc, fun c hc => ?_⟩
  · cases e : F c with
    | none => rw [gain_new e] at hc; exact hc
    | some u => rw [gain_old e] at hc; exact k _ _ (h _ _ hc)
  · cases e : F c with
    | none => exact .inr rfl
    | some u => rw [gain_old e] at hc; exact .inl hc
/-- Two parts of memory that have nothing in common. -/
def Apart (D G : Heap) : Prop := ∀ c, D c ≠ none → G c = none
theorem Apart.symm {D G : Heap} (h : Apart D G) : Apart G D := fun c hc => by
  cases e : D c with
  | none => rfl
  | some o => exact absurd (h c (by rw [e]; simp)) hc
theorem Apart.none (G : Heap) : Apart (fun _ => none) G := fun _ h => absurd rfl h
theorem Moves.keep {D F D' F' G : Heap} (h : Moves D F D' F') (hG : Ext G F) (ha : Apart D G) : Ext G F' := fun c o hc => h.out c o (hG _ _ hc) (by
  cases e : D c with
  | none => rfl
  | some u => rw [ha c (by rw [e]; simp)] at hc; cases hc)
theorem Moves.apart {D F D' F' G : Heap} (h : Moves D F D' F') (hG : Ext G F) (ha : Apart D G) : Apart D' G := fun c hc => by
  rcases h.new c hc with h1 | h1
  · exact ha c h1
  · exact hG.none h1
theorem Apart.mono {D G D' : Heap} (h : Apart D G) (k : Ext D' D) : Apart D' G := fun c hc => h c (fun e => hc (k.none e))
theorem Own.put {F : Heap} {s : Value} {e z n b : Nat} {vs : List Value} {o : Obj} (h : Own F s e z n vs) (hb : blk s ≠ some b) : Own (F.put b o) s e z n vs :=
  h.of_blk fun k u hk hu => by
    have hne : k ≠ b := fun e => by subst e; exact hb hk
    rw [Heap.put_other _ _ hne]; exact hu
/-- A look-up, when it is known what is found. -/
theorem op_lookup_at {P : Program} {T : Tab} (hT : TabOk P T) {o : Oper} {ev : Operand → Value} {F : Heap} {K : Value → Heap → Prop} {t kt et : TypeId} {x i : Operand} {ok : Bool} {m : Nat} {k : Int} {l : ML} {a1 a2 b1 b2 : Nat} {z1 z2 : Option Value} {d : TD} {z : Value} {g : Option Value}
    (ho : o.op = .lookup t x i ok) (hx : ev x = .map (some m)) (hi : ev i = .int .i64 k) (h1 : T t = some ⟨a1, a2, .map kt et, z1⟩) (h2 : T kt = some ⟨b1, b2, .int .i64, z2⟩) (h3 : T et = some d) (hz : d.zero = some z)
    (hm : MapAt F m l) (hg : getM l k = g) (hk : K (if ok then .tuple #[hitV z g, .bool g.isSome] else hitV z g) F) : OpK P o ev F K := by
  subst hg
  exact op_lookup hT ho hx hi h1 h2 h3 hz hm hk
end Go.Al
/- The logic of a known part of memory, 19: maps whose entries' stamps are in order; ranges over maps. It holds for every program. -/
namespace Go.Al
open Go

def WfE (es : List MapEntry) (cl : Nat) : Prop := (es.map (·.born)).Nodup ∧ ∀ e ∈ es, e.born < cl
def WfM (o : Obj) : Prop := ∃ es cl, o = .map es cl ∧ WfE es.toList cl
theorem WfM.nil (cl : Nat) : WfM (.map #[] cl) := ⟨#[], cl, rfl, List.nodup_nil, fun e h => by cases h⟩
/-- A map, and its entries' stamps in order. -/
def MapAtW (F : Heap) (m : Nat) (l : ML) : Prop := ∃ o, F m = some o ∧ MapO o l ∧ WfM o
theorem MapAtW.at_ {F : Heap} {m : Nat} {l : ML} (h : MapAtW F m l) : MapAt F m l := by
  obtain ⟨o, h1, h2, _⟩ := h
  exact ⟨o, h1, h2⟩
theorem MapAtW.mono {F G : Heap} {m : Nat} {l : ML} (h : MapAtW F m l) (hE : Ext F G) : MapAtW G m l := by
  obtain ⟨o, h1, h2, h3⟩ := h
  exact ⟨o, hE _ _ h1, h2, h3⟩
theorem MapAtW.put {F : Heap} {m : Nat} {o : Obj} {l : ML} (h : MapO o l) (hw : WfM o) : MapAtW (F.put m o) m l := ⟨o, Heap.put_same _ _ _, h, hw⟩
theorem MapAtW.eq {F G : Heap} {m : Nat} {l : ML} (h : MapAtW F m l) (e : G m = F m) : MapAtW G m l := by
  obtain ⟨o, h1, h2, h3⟩ := h
  exact ⟨o, by rw [e]; exact h1, h2, h3⟩
theorem MapAtW.open {F : Heap} {m : Nat} {l : ML} (h : MapAtW F m l) : ∃ es cl, F m = some (.map es cl) ∧ mapL es.toList l ∧ WfE es.toList cl := by
  obtain ⟨o, h1, ⟨es, cl, rfl, h2⟩, es', cl', h3, h4⟩ := h
  cases h3
  exact ⟨es, cl, h1, h2, h4⟩
theorem wfE_modify {es : Array MapEntry} {cl j : Nat} {f : MapEntry → MapEntry} (hf : ∀ e, (f e).born = e.born) (h : WfE es.toList cl) : WfE (es.modify j f).toList cl := by
  have e : (es.modify j f).toList.map (·.born) = es.toList.map (·.born) := by
    apply List.ext_getElem?
    intro n
    rw [Array.toList_modify, List.getElem?_map, List.getElem?_map, List.getElem?_modify]
    cases es.toList[n]? with
    | none => rfl
    | some x =>
      split
      · show some (f x).born = some x.born
        rw [hf]
      · rfl
  refine ⟨by rw [e]; exact h.1, fun x hx => ?_⟩
  have : x.born ∈ (es.modify j f).toList.map (·.born) := List.mem_map_of_mem hx
  rw [e] at this
  obtain ⟨y, hy, e2⟩ := List.mem_map.1 this
  rw [← e2]
  exact h.2 y hy
theorem wfE_push {es : Array MapEntry} {cl : Nat} {k v : Value} (h : WfE es.toList cl) : WfE (es.push ⟨k, v, cl⟩).toList (cl + 1) := by
  rw [Array.toList_push]
  refine ⟨?_, fun x hx => ?_⟩
  · rw [List.map_append, List.nodup_append]
    refine ⟨h.1, List.nodup_cons.2 ⟨List.not_mem_nil, List.nodup_nil⟩, fun a ha b hb e => ?_⟩
    obtain ⟨y, hy, rfl⟩ := List.mem_map.1 ha
    have hb := List.mem_singleton.1 hb
    have := h.2 y hy
    have hb : b = cl := hb
    omega
  · rcases List.mem_append.1 hx with hx | hx
    · exact Nat.lt_succ_of_lt (h.2 x hx)
    · rw [List.mem_singleton.1 hx]
      exact Nat.lt_succ_self _
theorem op_mapUpdateW {P : Program} {T : Tab} (hT : TabOk P T) {o : Oper} {ev : Operand → Value} {F : Heap} {K : Value → Heap → Prop} {t kt et : TypeId} {x i y : Operand} {m : Nat} {k : Int} {v : Value} {l : ML} {a1 a2 b1 b2 : Nat} {z1 z2 : Option Value}
    (ho : o.op = .mapUpdate t x i y) (hx : ev x = .map (some m)) (hi : ev i = .int .i64 k) (hy : ev y = v) (h1 : T t = some ⟨a1, a2, .map kt et, z1⟩) (h2 : T kt = some ⟨b1, b2, .int .i64, z2⟩)
    (hm : MapAtW F m l) (hk : ∀ o', MapO o' (setM l k v) → WfM o' → K undef (F.put m o')) : OpK P o ev F K := by
  obtain ⟨hu1, _⟩ := hT _ _ h1
  obtain ⟨hu2, _⟩ := hT _ _ h2
  obtain ⟨es, cl, hF, hes, hw⟩ := hm.open
  refine ⟨opW_wk ?_⟩
  simp only [execOp, ho, hx, hi, hy]
  unfold Instr.mapUpdate
  simp only [wk_bind]
  rw [wk_underlying hu1]
  dsimp only
  simp only [wk_bind]
  refine ⟨_, hF, (by intro c e fz h; cases h), ?_⟩
  rw [wk_pure']
  dsimp only
  simp only [wk_bind]
  refine wk_checkKey hu2 _ _ _ _ ?_
  unfold Instr.findKey
  rw [wk_bind, wk_underlying hu2, findNow_ints es.toList l k 0 hes]
  simp only [wk_pure]
  unfold setM at hk
  have hset : ∀ (o' : Obj) (K' : Unit → Heap → Prop), K' () (F.put m o') → wk P (setObj m o') F K' := fun o' K' h => ⟨⟨_, hF, (by intro c e fz h; cases h), (by intro d h; cases h)⟩, h⟩
  cases hf : findM l k 0 with
  | none =>
    rw [hf] at hk
    dsimp only at hk ⊢
    refine hset _ _ ?_
    refine hk _ ⟨_, _, rfl, ?_⟩ ⟨_, _, rfl, wfE_push hw⟩
    unfold mapL at hes ⊢
    simp [hes]
  | some q =>
    obtain ⟨j, u⟩ := q
    rw [hf] at hk
    obtain ⟨_, hj⟩ := findM_some l k 0 j u hf
    rw [Nat.sub_zero] at hj
    obtain ⟨e, he1, he2, he3⟩ := mapL_get hes hj
    have he1' : es[j]? = some e := by simpa using he1
    dsimp only at hk ⊢
    rw [he1']
    simp only [Option.map_some, Option.getD_some, he2, wk_bind]
    unfold Instr.keyThatStays
    rw [if_pos (by simp [Instr.sameBits])]
    simp only [wk_pure]
    refine hset _ _ ?_
    refine hk _ ⟨_, _, rfl, ?_⟩ ⟨_, _, rfl, wfE_modify (by intro e; rfl) hw⟩
    unfold mapL at hes ⊢
    apply List.ext_getElem?
    intro n
    have hn := congrArg (fun x => x[n]?) hes
    simp only [List.getElem?_map, Array.toList_modify, List.getElem?_modify, List.getElem?_set] at hn ⊢
    by_cases hjn : j = n
    · subst hjn
      have hlt : j < l.length := (List.getElem?_eq_some_iff.1 hj).1
      simp [he1, hlt]
    · simp only [hjn, if_false]
      simpa using hn
/-- A range over a map begins. -/
theorem op_range {P : Program} {T : Tab} (hT : TabOk P T) {o : Oper} {ev : Operand → Value} {F : Heap} {K : Value → Heap → Prop} {t kt et : TypeId} {x : Operand} {m : Nat} {es : Array MapEntry} {cl : Nat} {a1 a2 : Nat} {z1 : Option Value}
    (ho : o.op = .range t x) (hx : ev x = .map (some m)) (h1 : T t = some ⟨a1, a2, .map kt et, z1⟩) (hm : F m = some (.map es cl)) (hk : ∀ b, F b = none → K (.pointer (some ⟨b, 0, none⟩)) (F.put b (.mapIter (some m) cl #[] cl))) : OpK P o ev F K := by
  obtain ⟨hu1, _⟩ := hT _ _ h1
  refine ⟨opW_v (s := Instr.range t (.map (some m))) (by simp only [execOp, ho, hx]) ?_⟩
  unfold Instr.range
  simp only [wk_bind]
  rw [wk_underlying hu1]
  dsimp only
  simp only [wk_bind]
  refine ⟨_, hm, (by intro c e fz h; cases h), ?_⟩
  rw [wk_pure']
  exact fun b hb => hk b hb
/-- Its next step. -/
theorem op_next {P : Program} {o : Oper} {ev : Operand → Value} {F : Heap} {K : Value → Heap → Prop} {x : Operand} {r m : Nat} {es : Array MapEntry} {cl : Nat} {seen : Array Nat}
    (ho : o.op = .next x false) (hx : ev x = .pointer (some ⟨r, 0, none⟩)) (hr : F r = some (.mapIter (some m) cl seen cl)) (hm : F m = some (.map es cl)) (hw : ∀ e ∈ es.toList, e.born < cl)
    (hend : (∀ e ∈ es.toList, e.born ∈ seen.toList) → K (.tuple #[.bool false]) F)
    (hstep : ∀ e ∈ es.toList, e.born ∉ seen.toList → K (.tuple #[.bool true, e.key, e.val]) (F.put r (.mapIter (some m) cl (seen.push e.born) cl))) : OpK P o ev F K := by
  refine ⟨opW_v (s := Instr.next (.pointer (some ⟨r, 0, none⟩)) false o.type) (by simp only [execOp, ho, hx]) ?_⟩
  unfold Instr.next
  simp only [wk_bind]
  refine ⟨_, hr, (by intro c e fz h; cases h), ?_⟩
  rw [wk_pure']
  dsimp only
  simp only [wk_bind]
  refine ⟨_, hm, (by intro c e fz h; cases h), ?_⟩
  rw [wk_pure']
  dsimp only
  have hneg : ¬ (!seen.isEmpty && !es.isEmpty && es.all fun x => decide (x.born ≥ cl)) = true := by
    intro h
    rw [Bool.and_eq_true, Bool.and_eq_true] at h
    obtain ⟨⟨_, h2⟩, h3⟩ := h
    have hs : 0 < es.size := by
      rcases Nat.eq_zero_or_pos es.size with e | e
      · simp [Array.isEmpty, e] at h2
      · exact e
    have := (Array.all_eq_true.1 h3) 0 hs
    have h4 := hw es[0] (by simp)
    have := of_decide_eq_true this
    omega
  rw [if_neg hneg]
  have hB : ∀ e, e ∈ Array.filter (fun x => decide (x.born < cl)) (Array.filter (fun e => !seen.contains e.born) es) → e ∈ es.toList ∧ e.born ∉ seen.toList := fun e h => by
    rw [Array.mem_filter, Array.mem_filter] at h
    refine ⟨by simpa using h.1.1, ?_⟩
    have := h.1.2
    simpa using this
  have hB2 : ∀ e, e ∈ Array.filter (fun x => decide (x.born ≥ cl)) (Array.filter (fun e => !seen.contains e.born) es) → e ∈ es.toList ∧ e.born ∉ seen.toList := fun e h => by
    rw [Array.mem_filter, Array.mem_filter] at h
    refine ⟨by simpa using h.1.1, ?_⟩
    have := h.1.2
    simpa using this
  have hin : ∀ e ∈ es.toList, e.born ∉ seen.toList → e ∈ Array.filter (fun x => decide (x.born < cl)) (Array.filter (fun e => !seen.contains e.born) es) := fun e h1 h2 => by
    rw [Array.mem_filter, Array.mem_filter]
    exact ⟨⟨by simpa using h1, by simpa using h2⟩, decide_eq_true (hw e h1)⟩
  generalize Array.filter (fun x => decide (x.born < cl)) (Array.filter (fun e => !seen.contains e.born) es) = B at hB hin ⊢
  generalize Array.filter (fun x => decide (x.born ≥ cl)) (Array.filter (fun e => !seen.contains e.born) es) = B2 at hB2 ⊢
  have hC1 : ∀ e, some e ∈ (if B.isEmpty = true then #[none] else #[]) ++ Array.map some (B ++ B2) → e ∈ es.toList ∧ e.born ∉ seen.toList := fun e h => by
    rw [Array.mem_append] at h
    rcases h with h | h
    · split at h
      · simp at h
      · simp at h
    · rw [Array.mem_map] at h
      obtain ⟨x, hx, e2⟩ := h
      cases e2
      rcases Array.mem_append.1 hx with hx | hx
      · exact hB _ hx
      · exact hB2 _ hx
  have hC2 : none ∈ (if B.isEmpty = true then #[none] else #[]) ++ Array.map some (B ++ B2) → ∀ e ∈ es.toList, e.born ∈ seen.toList := fun h e he => by
    rw [Array.mem_append] at h
    rcases h with h | h
    · split at h
      · next hb =>
        cases hd : decide (e.born ∈ seen.toList) with
        | true => exact of_decide_eq_true hd
        | false =>
          have hm := hin e he (of_decide_eq_false hd)
          have : B = #[] := by simpa using hb
          rw [this] at hm
          simp at hm
      · simp at h
    · rw [Array.mem_map] at h
      obtain ⟨x, _, e2⟩ := h
      cases e2
  have hC3 : 0 < ((if B.isEmpty = true then #[none] else #[]) ++ Array.map some (B ++ B2)).size := by
    rw [Array.size_append, Array.size_map, Array.size_append]
    split
    · show 0 < 1 + _; omega
    · next hb =>
      have : 0 < B.size := by
        rcases Nat.eq_zero_or_pos B.size with e | e
        · exact absurd (by simpa using e) hb
        · exact e
      omega
  generalize (if B.isEmpty = true then #[none] else #[]) ++ Array.map some (B ++ B2) = C at hC1 hC2 hC3 ⊢
  rw [wk_bind]
  refine wk_choose fun n h1 h2 => ?_
  have hn : n < C.size := by
    cases hf : (Question.mapNext C.size).forced with
    | true => rw [h1 hf]; exact hC3
    | false =>
      obtain ⟨t, rfl⟩ := h2 hf
      exact Nat.mod_lt _ hC3
  have hmem : C[n] ∈ C := Array.getElem_mem hn
  rw [Array.getElem?_eq_getElem hn]
  generalize C[n] = c at hmem
  cases c with
  | none => exact hend (hC2 hmem)
  | some e =>
    obtain ⟨g1, g2⟩ := hC1 e hmem
    rw [wk_bind]
    exact ⟨⟨_, hr, (by intro c e fz h; cases h), (by intro d h; cases h)⟩, hstep e g1 g2⟩
theorem find_born {es : List MapEntry} (h : (es.map (·.born)).Nodup) {e : MapEntry} (he : e ∈ es) : es.find? (·.born == e.born) = some e := by
  induction es with
  | nil => cases he
  | cons x es ih =>
    rw [List.map_cons, List.nodup_cons] at h
    rcases List.mem_cons.1 he with rfl | he
    · rw [List.find?_cons_of_pos (by simp)]
    · have hne : x.born ≠ e.born := fun e2 => h.1 (by rw [e2]; exact List.mem_map_of_mem he)
      rw [List.find?_cons_of_neg (by simpa using hne)]
      exact ih h.2 he
/-- The entry of the step. -/
theorem op_entry {P : Program} {o : Oper} {ev : Operand → Value} {F : Heap} {K : Value → Heap → Prop} {x : Operand} {r m : Nat} {es : Array MapEntry} {cl : Nat} {seen : Array Nat} {e : MapEntry}
    (ho : o.op = .entry x) (hx : ev x = .pointer (some ⟨r, 0, none⟩)) (hr : F r = some (.mapIter (some m) cl (seen.push e.born) cl)) (hm : F m = some (.map es cl)) (hw : WfE es.toList cl) (he : e ∈ es.toList)
    (hk : K (.tuple #[e.key, e.val]) F) : OpK P o ev F K := by
  refine ⟨opW_v (s := Instr.entry (.pointer (some ⟨r, 0, none⟩))) (by simp only [execOp, ho, hx]) ?_⟩
  unfold Instr.entry
  simp only [wk_bind]
  refine ⟨_, hr, (by intro c e fz h; cases h), ?_⟩
  rw [wk_pure']
  dsimp only
  rw [Array.back?_push]
  dsimp only
  simp only [wk_bind]
  refine ⟨_, hm, (by intro c e fz h; cases h), ?_⟩
  rw [wk_pure']
  dsimp only
  rw [if_neg (by simp)]
  have hf : es.find? (fun x => x.born == e.born) = some e := by
    rw [← Array.find?_toList]
    exact find_born hw.1 he
  rw [hf]
  exact hk
end Go.Al
/- The logic of a known part of memory, 10: make, copy, an append of zeros, a mark. It holds for every program. -/
namespace Go.Al
open Go
set_option linter.unusedSimpArgs false

end Go.Al
/- The logic of a known part of memory, 18: rows whose elements take several cells. It holds for every program. -/
namespace Go.Al
open Go

def rowS {α : Type} (f : α → List Value) (xs : List α) : List Value := xs.flatMap f
section
variable {α : Type} {f : α → List Value} {z : Nat}
theorem rowS_cons (x : α) (xs : List α) : rowS f (x :: xs) = f x ++ rowS f xs := by unfold rowS; rw [List.flatMap_cons]
theorem rowS_len (hz : ∀ x, (f x).length = z) (xs : List α) : (rowS f xs).length = xs.length * z := by
  induction xs with
  | nil => show 0 = 0 * z; omega
  | cons x xs ih => rw [rowS_cons, List.length_append, ih, hz, List.length_cons, Nat.succ_mul]; omega
theorem rowS_at (hz : ∀ x, (f x).length = z) : ∀ (xs : List α) (j : Nat) (x : α), xs[j]? = some x → ((rowS f xs).drop (j * z)).take z = f x := by
  intro xs
  induction xs with
  | nil => intro j x h; simp at h
  | cons y xs ih =>
    intro j x h
    rw [rowS_cons]
    cases j with
    | zero =>
      obtain rfl : y = x := by simpa using h
      rw [Nat.zero_mul, List.drop_zero]
      exact List.take_left' (hz y)
    | succ j =>
      rw [Nat.succ_mul, Nat.add_comm, ← List.drop_drop, List.drop_left' (hz y)]
      exact ih j x (by simpa using h)
theorem rowS_get (hz : ∀ x, (f x).length = z) {xs : List α} {j q : Nat} {x : α} {v : Value} (h : xs[j]? = some x) (hq : (f x)[q]? = some v) : (rowS f xs)[j * z + q]? = some v := by
  have hlt : q < z := by rw [← hz x]; exact (List.getElem?_eq_some_iff.1 hq).1
  rw [← rowS_at hz xs j x h, List.getElem?_take, if_pos hlt, List.getElem?_drop] at hq
  exact hq
theorem rowS_loads (hz : ∀ x, (f x).length = z) (h0 : 0 < z) {F : Heap} {ad : Addr} {xs : List α} {j : Nat} {x : α} {K : Value → Prop} (hr : RowAt F (some ad) (rowS f xs)) (h : xs[j]? = some x) (hk : K (.agg (f x).toArray)) : LoadsK F (ad.add (Int.toNat (j : Int) * z)) z K := by
  have hlt : j < xs.length := (List.getElem?_eq_some_iff.1 h).1
  rw [Int.toNat_natCast]
  refine loads_row hr h0 ?_ ?_
  · rw [rowS_len hz]
    calc j * z + z = (j + 1) * z := (Nat.succ_mul j z).symm
      _ ≤ xs.length * z := Nat.mul_le_mul_right z hlt
  · rw [rowS_at hz xs j x h]; exact hk
theorem rowS_cell (hz : ∀ x, (f x).length = z) {F : Heap} {ad : Addr} {xs : List α} {j q : Nat} {x : α} {v : Value} (hr : RowAt F (some ad) (rowS f xs)) (h : xs[j]? = some x) (hq : (f x)[q]? = some v) : F.cell? ((ad.add (Int.toNat (j : Int) * z)).add q) = some v := by
  rw [Int.toNat_natCast, add_add]
  exact hr.cell (rowS_get hz h hq)
/-- One element is another one. -/
theorem rowS_set (hz : ∀ x, (f x).length = z) : ∀ (xs : List α) (j q : Nat) (x y : α) (v : Value), xs[j]? = some x → q < z → f y = (f x).set q v → putL (rowS f xs) (j * z + q) [v] = rowS f (xs.set j y) := by
  intro xs
  induction xs with
  | nil => intro j q x y v h; simp at h
  | cons w xs ih =>
    intro j q x y v h hq hy
    rw [rowS_cons]
    cases j with
    | zero =>
      obtain rfl : w = x := by simpa using h
      rw [List.set_cons_zero, rowS_cons, hy, Nat.zero_mul, Nat.zero_add]
      show (f w ++ rowS f xs).set q v = _
      rw [List.set_append_left _ _ (by rw [hz]; exact hq)]
    | succ j =>
      have := ih j q x y v (by simpa using h) hq hy
      rw [List.set_cons_succ, rowS_cons, ← this]
      show (f w ++ rowS f xs).set ((j + 1) * z + q) v = f w ++ (rowS f xs).set (j * z + q) v
      rw [List.set_append_right _ _ (by rw [hz, Nat.succ_mul]; omega), hz, Nat.succ_mul]
      congr 2
      omega
/-- Rows of structs among a law's arguments. -/
theorem rowS_open {β : Type} {K : Kind β} {G : β → Prop} {Q : α → β → Prop} (hz : ∀ x, (f x).length = z) (h0 : 0 < z) {F : Heap} {A : Option Addr} {xs : List β} (w : ∀ x ∈ xs, G x) (h : Elems F A z K xs) (ho : ∀ x c, G x → K F x c → ∃ r, c = f r ∧ Q r x) :
    ∃ rs : List α, rs.length = xs.length ∧ RowAt F A (rowS f rs) ∧ ∀ (j : Nat) r x, rs[j]? = some r → xs[j]? = some x → Q r x := by
  have hex : ∀ (j : Nat) (hj : j < xs.length), ∃ r : α, Q r xs[j] ∧ ∃ a, A = some a ∧ ∀ q u, (f r)[q]? = some u → F.cell? (a.add (j * z + q)) = some u := by
    intro j hj
    obtain ⟨a, c, h1, h2, h3, h4⟩ := h j _ (List.getElem?_eq_getElem hj)
    obtain ⟨r, rfl, hr⟩ := ho _ _ (w _ (List.getElem_mem hj)) h3
    exact ⟨r, hr, a, h1, h4⟩
  have key : ∀ n, n ≤ xs.length → ∃ rs : List α, rs.length = n ∧ ∀ (j : Nat) r, rs[j]? = some r → (∀ x, xs[j]? = some x → Q r x) ∧ ∃ a, A = some a ∧ ∀ q u, (f r)[q]? = some u → F.cell? (a.add (j * z + q)) = some u := by
    intro n
    induction n with
    | zero => intro _; exact ⟨[], rfl, fun j r h => by simp at h⟩
    | succ n ih =>
      intro hn
      obtain ⟨rs, hl, hp⟩ := ih (by omega)
      obtain ⟨r, hr, hr2⟩ := hex n (by omega)
      refine ⟨rs ++ [r], by simp [hl], fun j q hq => ?_⟩
      by_cases hj : j < rs.length
      · rw [List.getElem?_append_left hj] at hq
        exact hp j q hq
      · rw [List.getElem?_append_right (by omega)] at hq
        have hj0 : j - rs.length = 0 := by
          have := (List.getElem?_eq_some_iff.1 hq).1
          simp at this; omega
        rw [hj0] at hq
        obtain rfl : r = q := by simpa using hq
        obtain rfl : j = n := by omega
        refine ⟨fun x hx => ?_, hr2⟩
        rw [List.getElem?_eq_getElem (by omega)] at hx
        obtain rfl := Option.some.inj hx
        exact hr
  obtain ⟨rs, hl, hp⟩ := key xs.length (Nat.le_refl _)
  refine ⟨rs, hl, ?_, fun j r x hj hx => (hp j r hj).1 x hx⟩
  intro j v hj
  have hlt : j < (rowS f rs).length := (List.getElem?_eq_some_iff.1 hj).1
  rw [rowS_len hz] at hlt
  have hq : j / z < rs.length := (Nat.div_lt_iff_lt_mul h0).2 hlt
  have hx := List.getElem?_eq_getElem hq
  obtain ⟨_, a, h1, h2⟩ := hp _ _ hx
  refine ⟨a, h1, ?_⟩
  have hjz : j / z * z + j % z = j := by rw [Nat.mul_comm]; exact Nat.div_add_mod j z
  have := h2 (j % z) v (by rw [← rowS_at hz rs _ _ hx, List.getElem?_take, if_pos (Nat.mod_lt _ h0), List.getElem?_drop, hjz]; exact hj)
  rwa [hjz] at this
end
end Go.Al
/- The logic of a known part of memory, 13: structs and arrays of whole numbers, held against each other. It holds for every program. -/
namespace Go.Al
open Go

def intAt (xs : Array Value) (i : Nat) : Int := match xs[i]? with | some (.int _ a) => a | _ => 0
theorem part_int {P : Program} (w : World) {t : TypeId} {k : IntKind} (h : P.underlying t = some (.int k)) (xs : Array Value) (j : Nat) (v : Value) (hv : xs[j]? = some v) : (part t xs j).run P w = .ok v w := by
  have h1 : (isAgg t).run P w = .ok false w := by
    unfold isAgg
    rw [Sem.run_bind, run_underlying h, Result.andThen_ok]
    rfl
  unfold part
  rw [Sem.run_bind, h1, Result.andThen_ok]
  simp [hv, Sem.run_pure]
theorem run_fields_ints {P : Program} (w : World) (d : Nat) (xs ys : Array Value) : ∀ (fs : List Field), (∀ f ∈ fs, f.name ≠ "_" ∧ ∃ k a b, P.underlying f.type = some (.int k) ∧ xs[f.offset]? = some (.int k a) ∧ ys[f.offset]? = some (.int k b)) →
    (Op.eqFields (d + 1) xs ys fs).run P w = .ok (fs.all fun f => intAt xs f.offset == intAt ys f.offset) w := by
  intro fs
  induction fs with
  | nil => intro _; rfl
  | cons f fs ih =>
    intro h
    obtain ⟨hn, k, a, b, hu, hx, hy⟩ := h f (by simp)
    have ih := ih fun g hg => h g (by simp [hg])
    have ha : intAt xs f.offset = a := by unfold intAt; rw [hx]
    have hb : intAt ys f.offset = b := by unfold intAt; rw [hy]
    rw [Op.eqFields, if_pos hn]
    simp only [Sem.run_bind, part_int w hu xs _ _ hx, part_int w hu ys _ _ hy, Result.andThen_ok, run_equalIn_int w d f.type k k a b hu, List.all_cons, ha, hb]
    cases hab : (a == b) with
    | true => simpa using ih
    | false => simp [Sem.run_pure]
/-- Structs whose fields are whole numbers. -/
theorem run_struct_ints {P : Program} (w : World) (d : Nat) (t : TypeId) (xs ys : Array Value) (ht : P.underlying t = some (.struct (P.fieldsOf t))) (hp : P.stoodInHeld t = false)
    (h : ∀ f ∈ (P.fieldsOf t).toList, f.name ≠ "_" ∧ ∃ k a b, P.underlying f.type = some (.int k) ∧ xs[f.offset]? = some (.int k a) ∧ ys[f.offset]? = some (.int k b)) :
    (Op.equalIn (d + 2) t (.agg xs) (.agg ys)).run P w = .ok ((P.fieldsOf t).toList.all fun f => intAt xs f.offset == intAt ys f.offset) w := by
  rw [run_equalIn_agg w (d + 1) t xs ys ht hp, run_fields_ints w d xs ys _ h]
theorem op_neq {P : Program} {o : Oper} {ev : Operand → Value} {F : Heap} {K : Value → Heap → Prop} {t : TypeId} {x y : Operand} {t' : TypeId} {xs ys : Array Value} (q : Bool)
    (ho : o.op = .binOp .neq t x y t') (hx : ev x = .agg xs) (hy : ev y = .agg ys) (hg : P.eqGuardType P.depth t = false) (hr : ∀ w, (Op.equalIn 10000 t (.agg xs) (.agg ys)).run P w = .ok q w) (hk : K (.bool (!q)) F) : OpK P o ev F K := by
  refine op_run (F' := F) (s := (do eqGuard .neq t x y (ev x) (ev y); binOp .neq t (ev x) (ev y))) (by simp only [execOp, ho]) (fun w hw => ⟨w, ?_, hw, Rest.refl w⟩) hk
  rw [hx, hy, Sem.run_bind, run_eqGuard_agg w .neq t x y _ _ hg, Result.andThen_ok, run_neq_struct w t, hr]
  rfl
def intFields (P : Program) (k : IntKind) (n : Nat) (t : TypeId) : Bool := (P.fieldsOf t).toList.all fun f => decide (f.name ≠ "_") && ((match P.underlying f.type with | some (.int k') => kEq k k' | _ => false) && Nat.blt f.offset n)
/-- Two structs of whole numbers of one kind. -/
theorem run_struct_check {P : Program} (w : World) (t : TypeId) (xs ys : Array Value) (k : IntKind) (n : Nat) (ht : P.underlying t = some (.struct (P.fieldsOf t))) (hp : P.stoodInHeld t = false) (hc : intFields P k n t = true)
    (h : ∀ j, j < n → ∃ a b, xs[j]? = some (.int k a) ∧ ys[j]? = some (.int k b)) :
    (Op.equalIn 10000 t (.agg xs) (.agg ys)).run P w = .ok ((P.fieldsOf t).toList.all fun f => intAt xs f.offset == intAt ys f.offset) w := by
  refine run_struct_ints w 9998 t xs ys ht hp fun f hf => ?_
  have := List.all_eq_true.1 hc f hf
  rw [Bool.and_eq_true, Bool.and_eq_true, decide_eq_true_eq] at this
  obtain ⟨h1, h2, h3⟩ := this
  obtain ⟨a, b, hx, hy⟩ := h f.offset (Nat.le_of_ble_eq_true h3)
  refine ⟨h1, k, a, b, ?_, hx, hy⟩
  split at h2
  · next k' hu => rw [hu]; have : k = k' := by revert h2; cases k <;> cases k' <;> decide
                  rw [this]
  · cases h2
end Go.Al
/- Interfund lines: sums by fund, in plain Lean; rows of lines. -/
namespace Go.Proofs.Ytpbpjmnnbmjmbaa.Al
open Go Go.Al Go.Proofs Go.RowKit
set_option maxHeartbeats 8000000
set_option maxRecDepth 100000
set_option linter.unusedVariables false
set_option linter.unusedSimpArgs false
structure LnD where
  f : Int
  o : Int
  n : Int
  a : Int
def lnC (x : LnD) : List Value := [.int .i64 x.f, .int .i64 x.o, .int .i64 x.n, .int .i64 x.a]
theorem lnC_len (x : LnD) : (lnC x).length = 4 := rfl
theorem ln_one (x : LnD) : ∀ v ∈ lnC x, v.oneCell' = true := by simp [lnC, Value.oneCell']
theorem lns_one (xs : List LnD) : ∀ v ∈ rowS lnC xs, v.oneCell' = true := fun v hv => by
  obtain ⟨x, _, h⟩ := List.mem_flatMap.1 hv
  exact ln_one x v h
/-- Sums by fund, rising. -/
abbrev SumL := List (Int × Int)
def lkA : SumL → Int → Option Int
  | [], _ => none
  | x :: t, k => if k = x.1 then some x.2 else lkA t k
def addA : SumL → Int → Int → SumL
  | [], f, n => [(f, n)]
  | x :: t, f, n => if x.1 < f then x :: addA t f n else if x.1 = f then (f, IntKind.i64.wrap (x.2 + n)) :: t else (f, n) :: x :: t
theorem lk_add : ∀ (S : SumL) (f n : Int) (k : Int), S.Pairwise (fun x y => x.1 < y.1) → lkA (addA S f n) k = if k = f then some (match lkA S f with | some m => IntKind.i64.wrap (m + n) | none => n) else lkA S k
  | [], f, n, k, _ => rfl
  | x :: t, f, n, k, h => by
    obtain ⟨h1, h2⟩ := List.pairwise_cons.1 h
    unfold addA
    by_cases c1 : x.1 < f
    · rw [if_pos c1]
      show (if k = x.1 then some x.2 else lkA (addA t f n) k) = if k = f then some (match (if f = x.1 then some x.2 else lkA t f) with | some m => IntKind.i64.wrap (m + n) | none => n) else if k = x.1 then some x.2 else lkA t k
      rw [lk_add t f n k h2, if_neg (show ¬ f = x.1 by omega)]
      by_cases e : k = x.1
      · rw [if_pos e, if_neg (show ¬ k = f by omega), if_pos e]
      · rw [if_neg e, if_neg e]
    · rw [if_neg c1]
      by_cases c2 : x.1 = f
      · rw [if_pos c2]
        show (if k = f then some (IntKind.i64.wrap (x.2 + n)) else lkA t k) = if k = f then some (match (if f = x.1 then some x.2 else lkA t f) with | some m => IntKind.i64.wrap (m + n) | none => n) else if k = x.1 then some x.2 else lkA t k
        rw [if_pos c2.symm]
        by_cases e : k = f
        · rw [if_pos e, if_pos e]
        · rw [if_neg e, if_neg e, if_neg (show ¬ k = x.1 by omega)]
      · rw [if_neg c2]
        show (if k = f then some n else if k = x.1 then some x.2 else lkA t k) = if k = f then some (match (if f = x.1 then some x.2 else lkA t f) with | some m => IntKind.i64.wrap (m + n) | none => n) else if k = x.1 then some x.2 else lkA t k
        have hno : ∀ t : SumL, (∀ y ∈ t, x.1 < y.1) → lkA t f = none := by
          intro t
          induction t with
          | nil => intro _; rfl
          | cons y t ih =>
            intro hy
            have := hy y List.mem_cons_self
            show (if f = y.1 then _ else lkA t f) = none
            rw [if_neg (by omega)]
            exact ih fun z hz => hy z (List.mem_cons_of_mem _ hz)
        rw [if_neg (show ¬ f = x.1 by omega), hno t h1]
theorem add_mem {S : SumL} {f n : Int} {y : Int × Int} (h : y ∈ addA S f n) : y.1 = f ∨ y ∈ S := by
  induction S with
  | nil => rw [List.mem_singleton.1 h]; exact .inl rfl
  | cons x t ih =>
    unfold addA at h
    split at h
    · rcases List.mem_cons.1 h with rfl | h
      · exact .inr List.mem_cons_self
      · rcases ih h with h | h
        · exact .inl h
        · exact .inr (List.mem_cons_of_mem _ h)
    · split at h
      · rcases List.mem_cons.1 h with rfl | h
        · exact .inl rfl
        · exact .inr (List.mem_cons_of_mem _ h)
      · rcases List.mem_cons.1 h with rfl | h
        · exact .inl rfl
        · exact .inr h
theorem add_srt : ∀ {S : SumL}, S.Pairwise (fun x y => x.1 < y.1) → ∀ (f n : Int), (addA S f n).Pairwise (fun x y => x.1 < y.1)
  | [], _, f, n => List.pairwise_singleton _ _
  | x :: t, h, f, n => by
    obtain ⟨h1, h2⟩ := List.pairwise_cons.1 h
    unfold addA
    by_cases e1 : x.1 < f
    · rw [if_pos e1]
      refine List.pairwise_cons.2 ⟨fun y hy => ?_, add_srt h2 f n⟩
      rcases add_mem hy with hy | hy
      · omega
      · exact h1 y hy
    · rw [if_neg e1]
      by_cases e2 : x.1 = f
      · rw [if_pos e2]
        exact List.pairwise_cons.2 ⟨fun y hy => by have := h1 y hy; show f < y.1; omega, h2⟩
      · rw [if_neg e2]
        refine List.pairwise_cons.2 ⟨fun y hy => ?_, h⟩
        rcases List.mem_cons.1 hy with rfl | hy
        · show f < y.1; omega
        · have := h1 y hy; show f < y.1; omega
theorem add_len (S : SumL) (f n : Int) : (addA S f n).length ≤ S.length + 1 := by
  induction S with
  | nil => exact Nat.le_refl _
  | cons x t ih =>
    unfold addA
    split
    · rw [List.length_cons, List.length_cons]; omega
    · split
      · rw [List.length_cons, List.length_cons]; omega
      · rw [List.length_cons, List.length_cons]; omega
def sumS (l : List LnD) (S : SumL) : SumL := l.foldl (fun S x => addA S x.f x.a) S
theorem sum_srt (l : List LnD) : ∀ {S : SumL}, S.Pairwise (fun x y => x.1 < y.1) → (sumS l S).Pairwise (fun x y => x.1 < y.1) := by
  induction l with
  | nil => intro S h; exact h
  | cons x l ih => intro S h; exact ih (add_srt h x.f x.a)
theorem sum_len (l : List LnD) : ∀ (S : SumL), (sumS l S).length ≤ S.length + l.length := by
  induction l with
  | nil => intro S; exact Nat.le_refl _
  | cons x l ih =>
    intro S
    have h1 := ih (addA S x.f x.a)
    have h2 := add_len S x.f x.a
    show (sumS l (addA S x.f x.a)).length ≤ _
    rw [List.length_cons]
    omega
theorem sum_take (l : List LnD) (S : SumL) (j : Nat) (hj : j < l.length) : sumS (l.take (j + 1)) S = addA (sumS (l.take j) S) l[j].f l[j].a := by
  unfold sumS
  rw [List.take_add_one, List.getElem?_eq_getElem hj, List.foldl_append]
  rfl
def fdL (x : Int × Int) : LnD := ⟨x.1, 0, 0, x.2⟩
def fundsS (l : List LnD) : List LnD := (sumS l []).map fdL
/-- The place of a fund. -/
theorem add_at : ∀ (S : SumL) (k : Nat) (f n : Int), k ≤ S.length → (∀ j x, j < k → S[j]? = some x → x.1 < f) → (∀ x, S[k]? = some x → ¬ x.1 < f) → addA S f n = match S[k]? with | some x => if x.1 = f then S.set k (f, IntKind.i64.wrap (x.2 + n)) else S.take k ++ (f, n) :: S.drop k | none => S.take k ++ (f, n) :: S.drop k
  | [], k, f, n, hk, h1, h2 => by
    obtain rfl : k = 0 := by simpa using hk
    rfl
  | x :: t, 0, f, n, hk, h1, h2 => by
    have := h2 x rfl
    unfold addA
    rw [if_neg this]
    show _ = if x.1 = f then _ else _
    by_cases e : x.1 = f
    · rw [if_pos e, if_pos e]; rfl
    · rw [if_neg e, if_neg e]; rfl
  | x :: t, k + 1, f, n, hk, h1, h2 => by
    have e := h1 0 x (by omega) rfl
    unfold addA
    rw [if_pos e, add_at t k f n (by simpa using hk) (fun j y hj hy => h1 (j + 1) y (by omega) (by simpa using hy)) (fun y hy => h2 y (by simpa using hy))]
    rw [List.getElem?_cons_succ]
    cases t[k]? with
    | none => rfl
    | some y =>
      dsimp only
      split
      · rfl
      · rfl
end Go.Proofs.Ytpbpjmnnbmjmbaa.Al
/- Interfund lines: rows whose elements take z cells: cuts, a cell set in place. -/
namespace Go.Proofs.Ytpbpjmnnbmjmbaa.Al
open Go Go.Al Go.Proofs Go.RowKit
set_option maxHeartbeats 8000000
set_option maxRecDepth 100000
set_option linter.unusedVariables false
set_option linter.unusedSimpArgs false
section
variable {α : Type} {f : α → List Value} {z : Nat}
theorem rowZ_app (xs ys : List α) : rowS f (xs ++ ys) = rowS f xs ++ rowS f ys := by unfold rowS; rw [List.flatMap_append]
theorem rowZ_take (hz : ∀ x, (f x).length = z) {xs : List α} (n : Nat) : (rowS f xs).take (n * z) = rowS f (xs.take n) := by
  induction xs generalizing n with
  | nil => simp [rowS]
  | cons x xs ih =>
    cases n with
    | zero => simp [rowS]
    | succ n =>
      rw [rowS_cons, List.take_succ_cons, rowS_cons, Nat.succ_mul, List.take_append, hz, Nat.add_sub_cancel, ih n, List.take_of_length_le (by rw [hz]; omega)]
theorem rowZ_drop (hz : ∀ x, (f x).length = z) {xs : List α} (n : Nat) : (rowS f xs).drop (n * z) = rowS f (xs.drop n) := by
  induction xs generalizing n with
  | nil => simp [rowS]
  | cons x xs ih =>
    cases n with
    | zero => simp [rowS]
    | succ n =>
      rw [rowS_cons, List.drop_succ_cons, Nat.succ_mul, List.drop_append, hz, Nat.add_sub_cancel, ih n, List.drop_of_length_le (by rw [hz]; omega), List.nil_append]
theorem rowZ_cut (hz : ∀ x, (f x).length = z) (h0 : 0 < z) {F : Heap} {A : Option Addr} {rs : List α} (lo n m : Nat) (hr : RowAt F A (rowS f rs)) (hm : lo + n ≤ m) (hle : lo + n ≤ rs.length) : RowAt F (if m = lo then A else A.map (·.add (lo * z))) (rowS f ((rs.drop lo).take n)) := by
  by_cases hn : n = 0
  · subst hn
    rw [List.take_zero]
    exact RowAt.nil _ _
  · obtain ⟨ad, rfl⟩ := hr.some (by rw [rowS_len hz]; exact Nat.mul_pos (by omega) h0)
    rw [if_neg (by omega), ← rowZ_take hz, ← rowZ_drop hz]
    exact (hr.drop (lo * z)).take _
theorem own_setZ (hz : ∀ x, (f x).length = z) {F : Heap} {b n c : Nat} {e : TypeId} {rs : List α} (h : Own F (.slice (some ⟨b, 0, none⟩) n c) e z n (rowS f rs)) (hn : rs.length = n) {j q : Nat} {x y : α} (hq : q < z) (hj : rs[j]? = some x) {a : Addr} (ha : a = ⟨b, j * z + q, none⟩) {v : Value} (hy : f y = (f x).set q v) (hv : v.oneCell' = true) {K : Value → Heap → Prop}
    (hk : ∀ F', Own F' (.slice (some ⟨b, 0, none⟩) n c) e z n (rowS f (rs.set j y)) → Keeps F F' (some b) → K undef F') : StoreK F a [v] K := by
  have hlt : j < rs.length := (List.getElem?_eq_some_iff.1 hj).1
  obtain ⟨h1, h2⟩ := h
  rcases h2 with ⟨h2, h3⟩ | ⟨b', c', cs, h2, ⟨fz, hb, hz'⟩, hsz, hnc, ht⟩
  · cases h2
  · cases h2
    have hcs : cs.toList = rowS f rs ++ cs.toList.drop (n * z) := by rw [← ht, List.take_append_drop]
    have hlen : cs.toList.length = c * z := by rw [Array.length_toList]; exact hsz
    have hcn : n * z ≤ c * z := Nat.mul_le_mul_right z hnc
    have hjz : j * z + q + 1 ≤ n * z := by
      have : (j + 1) * z ≤ n * z := Nat.mul_le_mul_right z (by omega)
      rw [Nat.succ_mul] at this
      omega
    refine store_step b (j * z + q) cs _ ha hb rfl (Nat.ble_eq_true_of_le (by rw [hsz]; show j * z + q + 1 ≤ _; omega)) (hz'.imp id fun h => by show j * z + q + 1 ≤ _; omega) (fun u hu => by rw [List.mem_singleton.1 hu]; exact hv) ?_
    have hrl : (rowS f rs).length = n * z := by rw [rowS_len hz, hn]
    have hrl2 : (rowS f (rs.set j y)).length = n * z := by rw [rowS_len hz, List.length_set, hn]
    have hp : putL cs.toList (j * z + q) [v] = rowS f (rs.set j y) ++ cs.toList.drop (n * z) := by
      conv => lhs; rw [hcs]
      rw [← rowS_set hz rs j q x y v hj hq hy]
      show (rowS f rs ++ cs.toList.drop (n * z)).set (j * z + q) v = (rowS f rs).set (j * z + q) v ++ _
      rw [List.set_append_left _ _ (by rw [hrl]; omega)]
    rw [hp]
    refine hk _ ⟨hrl2, .inr ⟨b, c, _, rfl, ⟨fz, Heap.put_same _ _ _, hz'.imp id fun h => ?_⟩, ?_, hnc, ?_⟩⟩ fun k o hk' hne => by rw [Heap.put_other _ _ (fun e => hne (by rw [e]))]; exact hk'
    · rw [List.size_toArray, List.length_append, hrl2, List.length_drop]; omega
    · rw [List.size_toArray, List.length_append, hrl2, List.length_drop]; omega
    · rw [List.toList_toArray]
      exact List.take_left' hrl2
end
end Go.Proofs.Ytpbpjmnnbmjmbaa.Al
/- The library's sort of lines by fund: laid at this program; its contract over what is known of memory. The closure's walk: lines of the kit's worked text SlSortFuncAtStructs, turned. -/
namespace Go.Proofs.Ytpbpjmnnbmjmbaa.Al
open Go Go.Al Go.Proofs Go.RowKit Go.Sort Go.Shelf
set_option maxHeartbeats 8000000
set_option maxRecDepth 100000
set_option linter.unusedVariables false
set_option linter.unusedSimpArgs false
def srtRen : Go.Shelf.Ren := ⟨fun x => match x with | 6 => 20 | 14 => 25 | 15 => 26 | 20 => 28 | 21 => 29 | 22 => 30 | 23 => 31 | 24 => 32 | 25 => 33 | 26 => 34 | 27 => 35 | 28 => 36 | 29 => 37 | 46 => 38 | 47 => 39 | 48 => 40 | 49 => 41 | 50 => 42 | 57 => 43 | n => n, fun x => match x with | 22 => 22 | 24 => 27 | 25 => 36 | 3 => 3 | 39 => 42 | 0 => 0 | 53 => 53 | 55 => 55 | 4 => 4 | 46 => 46 | 45 => 45 | 50 => 50 | 5 => 5 | 9 => 9 | 66 => 56 | 70 => 60 | 76 => 62 | 77 => 63 | n => n, fun n => n⟩
theorem srtLays : SlLaysF0.n6 Try.prog srtRen where
  mixed := by kernel_rfl
  f6 := ⟨"slices.SortFunc[[]exchequer/api.Line,exchequer/api.Line]", by decide, Try.func20.trans (congrArg some (by kernel_rfl))⟩
  f14 := ⟨"slices.pdqsortCmpFunc[exchequer/api.Line]", by decide, Try.func25.trans (congrArg some (by kernel_rfl))⟩
  f15 := Try.func26.trans (congrArg some (by kernel_rfl))
  f20 := ⟨"slices.insertionSortCmpFunc[exchequer/api.Line]", by decide, Try.func28.trans (congrArg some (by kernel_rfl))⟩
  f21 := ⟨"slices.heapSortCmpFunc[exchequer/api.Line]", by decide, Try.func29.trans (congrArg some (by kernel_rfl))⟩
  f22 := ⟨"slices.breakPatternsCmpFunc[exchequer/api.Line]", by decide, Try.func30.trans (congrArg some (by kernel_rfl))⟩
  f23 := ⟨"slices.choosePivotCmpFunc[exchequer/api.Line]", by decide, Try.func31.trans (congrArg some (by kernel_rfl))⟩
  f24 := ⟨"slices.reverseRangeCmpFunc[exchequer/api.Line]", by decide, Try.func32.trans (congrArg some (by kernel_rfl))⟩
  f25 := ⟨"slices.partialInsertionSortCmpFunc[exchequer/api.Line]", by decide, Try.func33.trans (congrArg some (by kernel_rfl))⟩
  f26 := ⟨"slices.partitionEqualCmpFunc[exchequer/api.Line]", by decide, Try.func34.trans (congrArg some (by kernel_rfl))⟩
  f27 := ⟨"slices.partitionCmpFunc[exchequer/api.Line]", by decide, Try.func35.trans (congrArg some (by kernel_rfl))⟩
  f28 := Try.func36.trans (congrArg some (by kernel_rfl))
  f29 := Try.func37.trans (congrArg some (by kernel_rfl))
  f46 := ⟨"slices.siftDownCmpFunc[exchequer/api.Line]", by decide, Try.func38.trans (congrArg some (by kernel_rfl))⟩
  f47 := Try.func39.trans (congrArg some (by kernel_rfl))
  f48 := Try.func40.trans (congrArg some (by kernel_rfl))
  f49 := ⟨"slices.medianAdjacentCmpFunc[exchequer/api.Line]", by decide, Try.func41.trans (congrArg some (by kernel_rfl))⟩
  f50 := ⟨"slices.medianCmpFunc[exchequer/api.Line]", by decide, Try.func42.trans (congrArg some (by kernel_rfl))⟩
  f57 := ⟨"slices.order2CmpFunc[exchequer/api.Line]", by decide, Try.func43.trans (congrArg some (by kernel_rfl))⟩
  t0 := Try.underlying0
  a0 := Try.isAgg0
  z0 := Try.sizeOf0
  v0 := Try.zeroValue0
  t3 := Try.underlying3
  a3 := Try.isAgg3
  z3 := Try.sizeOf3
  v3 := Try.zeroValue3
  t4 := Try.underlying4
  a4 := Try.isAgg4
  z4 := Try.sizeOf4
  v4 := Try.zeroValue4
  t5 := Try.underlying5
  a5 := Try.isAgg5
  z5 := Try.sizeOf5
  v5 := Try.zeroValue5
  t9 := Try.underlying9
  a9 := Try.isAgg9
  z9 := Try.sizeOf9
  v9 := Try.zeroValue9
  t22 := Try.underlying22
  a22 := Try.isAgg22
  z22 := Try.sizeOf22
  v22 := Try.zeroValue22
  t25 := Try.underlying36
  a25 := Try.isAgg36
  z25 := Try.sizeOf36
  v25 := Try.zeroValue36
  t39 := Try.underlying42
  a39 := Try.isAgg42
  z39 := Try.sizeOf42
  v39 := Try.zeroValue42
  t45 := Try.underlying45
  a45 := Try.isAgg45
  z45 := Try.sizeOf45
  v45 := Try.zeroValue45
  t46 := Try.underlying46
  a46 := Try.isAgg46
  z46 := Try.sizeOf46
  v46 := Try.zeroValue46
  t50 := Try.underlying50
  a50 := Try.isAgg50
  z50 := Try.sizeOf50
  v50 := Try.zeroValue50
  t53 := Try.underlying53
  a53 := Try.isAgg53
  z53 := Try.sizeOf53
  v53 := Try.zeroValue53
  t55 := Try.underlying55
  a55 := Try.isAgg55
  z55 := Try.sizeOf55
  v55 := Try.zeroValue55
  t66 := Try.underlying56
  a66 := Try.isAgg56
  z66 := Try.sizeOf56
  v66 := Try.zeroValue56
  t70 := Try.underlying60
  a70 := Try.isAgg60
  z70 := Try.sizeOf60
  v70 := Try.zeroValue60
  t76 := Try.underlying62
  a76 := Try.isAgg62
  z76 := Try.sizeOf62
  v76 := Try.zeroValue62
  t77 := Try.underlying63
  a77 := Try.isAgg63
  z77 := Try.sizeOf63
  v77 := Try.zeroValue63
def cmpRen : Go.Shelf.Ren := ⟨fun x => match x with | 5 => 22 | 7 => 27 | n => n, fun x => match x with | 3 => 3 | 4 => 4 | 22 => 3 | n => n, fun n => n⟩
theorem cmpLays : SlLaysC2.n5 Try.prog cmpRen where
  mixed := by kernel_rfl
  f5 := ⟨"cmp.Compare[int]", by decide, Try.func22.trans (congrArg some (by kernel_rfl))⟩
  f7 := ⟨"cmp.isNaN[int]", by decide, Try.func27.trans (congrArg some (by kernel_rfl))⟩
  t3 := Try.underlying3
  a3 := Try.isAgg3
  z3 := Try.sizeOf3
  v3 := Try.zeroValue3
  t4 := Try.underlying4
  a4 := Try.isAgg4
  z4 := Try.sizeOf4
  v4 := Try.zeroValue4
  t22 := Try.underlying3
  a22 := Try.isAgg3
  z22 := Try.sizeOf3
  v22 := Try.zeroValue3
instance : Inhabited LnD := ⟨⟨0, 0, 0, 0⟩⟩
theorem fundsFn (x y : LnD) (W : World) : Calls Try.prog 21 #[.agg #[.int .i64 x.f, .int .i64 x.o, .int .i64 x.n, .int .i64 x.a], .agg #[.int .i64 y.f, .int .i64 y.o, .int .i64 y.n, .int .i64 y.a]] W fun e w' => e = .returned (.int .i64 (Lib.compareInt x.f y.f)) ∧ ∃ q os', w' = grow (W.drewN q) os' := by
  have hcon := fun W' => AnyG.cmp_Compare_int cmpLays x.f y.f W'
  change ∀ W', Calls Try.prog 22 _ _ _ at hcon
  generalize Lib.compareInt x.f y.f = r at hcon ⊢
  go_enter Try.func21, Try.ntmps21
  go_wp2_with (go_at_call 22; refine (hcon _).mono ?_; rintro e w' ⟨rfl, rfl⟩)
  go_ret
  exact ⟨rfl, 0, _, by rw [alloc_eq_grow, alloc_eq_grow, grow_grow]; rfl⟩
theorem ltF (x y : LnD) : ltOf (fun x y : LnD => Lib.compareInt x.f y.f) x y = decide (x.f < y.f) := by
  unfold ltOf Lib.compareInt
  by_cases h1 : x.f < y.f
  · simp [h1]
  · by_cases h2 : y.f < x.f <;> simp [h1, h2]
theorem swoF : SWO (ltOf fun x y : LnD => Lib.compareInt x.f y.f) where
  irrefl x := by rw [ltF]; simp
  trans x y z h1 h2 := by rw [ltF] at *; simp at *; omega
  ntrans x y z h1 h2 := by rw [ltF] at *; simp at *; omega
theorem fundsLays (blk off size : Nat) (w : World) : CmpLays Try.prog 21 #[] lnC 4 (fun x y => Lib.compareInt x.f y.f) blk off size w :=
  fun _ _ _ _ x y => fundsFn x y _
end Go.Proofs.Ytpbpjmnnbmjmbaa.Al
/- The library's sort of lines by fund, over what is known of memory. -/
namespace Go.Proofs.Ytpbpjmnnbmjmbaa.Al
open Go Go.Al Go.Proofs Go.RowKit Go.Sort Go.Shelf
set_option maxHeartbeats 8000000
set_option maxRecDepth 100000
set_option linter.unusedVariables false
set_option linter.unusedSimpArgs false
theorem flat_lns (l : List LnD) : (flatK lnC 4 l.toArray).toList = rowS lnC l := by
  have hs : (flatK lnC 4 l.toArray).size = l.length * 4 := by rw [size_flatK, List.size_toArray]
  apply List.ext_getElem?
  intro t
  by_cases ht : t < l.length * 4
  · have hj : t / 4 < l.length := by omega
    have hx : l[t / 4]? = some l[t / 4] := List.getElem?_eq_getElem hj
    have hg := get_flatK lnC 4 l.toArray t (by rw [List.size_toArray]; exact ht)
    rw [Array.getElem?_toList, Array.getElem?_eq_getElem (by rw [hs]; exact ht), ← getElem!_pos _ t (by rw [hs]; exact ht), hg]
    have hl : l.toArray[t / 4]! = l[t / 4] := by
      rw [getElem!_pos _ _ (by rw [List.size_toArray]; exact hj)]
      rfl
    rw [hl]
    generalize l[t / 4] = x at hx
    have hq : (lnC x)[t % 4]? = some (lnC x)[t % 4]! := by
      have : t % 4 < 4 := Nat.mod_lt _ (by decide)
      generalize t % 4 = q at this
      have : q = 0 ∨ q = 1 ∨ q = 2 ∨ q = 3 := by omega
      rcases this with rfl | rfl | rfl | rfl <;> rfl
    have := rowS_get lnC_len hx hq
    rw [show t / 4 * 4 + t % 4 = t by omega] at this
    rw [this]
  · rw [List.getElem?_eq_none (by rw [Array.length_toList, hs]; omega), List.getElem?_eq_none (by rw [rowS_len lnC_len]; omega)]
theorem holds_vals {F : Heap} {w : World} (hw : Has F w) {g : Nat} {cs : Array Value} {e : TypeId} {fz : Nat × Nat} {vs : Array Value} (hb : F g = some (.cells cs e fz)) (hf : fz.2 ≤ fz.1 ∨ cs.size ≤ fz.1) (hs : vs.size ≤ cs.size) (ht : cs.toList.take vs.size = vs.toList) : Sort.Holds id w g 0 vs := by
  intro j hj
  have hw' := hw _ _ hb
  refine ⟨?_, ?_⟩
  · have h1 : (cs.toList.take vs.size)[j]? = vs.toList[j]? := by rw [ht]
    rw [List.getElem?_take_of_lt hj] at h1
    simp only [World.cell?, hw', Nat.zero_add]
    simp only [Option.isSome_none, Bool.false_eq_true, if_false]
    rw [← Array.getElem?_toList, h1]
    simp [hj]
  · simp only [World.frozen?, hw', Nat.zero_add]
    rw [Bool.and_eq_false_iff, decide_eq_false_iff_not, decide_eq_false_iff_not]
    omega
theorem heap_vals {w : World} {g n : Nat} {os : Array Obj} {cur : Array Value} {e : TypeId} {fr : Nat × Nat} (d : Array Value) (hb : w.heap[g]? = some (.cells cur e fr)) :
    (Sort.grow (Sort.putRow id (Sort.ahead w n) g 0 d) os).heap[g]? = some (.cells (Sort.putCells id 0 d cur) e fr) := by
  have hg : g < w.heap.size := (Array.getElem?_eq_some_iff.1 hb).1
  rw [heap_grow_old _ _ (by simpa using hg)]
  simp [putRow, mapBlock, Sort.ahead, Array.getElem?_modify, hb, onCells]
theorem grown_vals {w : World} {g n : Nat} {os : Array Obj} (d : Array Value) : w.grownBy (Sort.grow (Sort.putRow id (Sort.ahead w n) g 0 d) os) (some g) := by
  refine ⟨rfl, rfl, rfl, by simp, fun k hk hne => ?_⟩
  rw [heap_grow_old _ _ (by simpa using hk)]
  have : g ≠ k := fun e => hne (by rw [e])
  simp [putRow, mapBlock, Sort.ahead, Array.getElem?_modify, this]
theorem take_vals (cur : Array Value) (ts : Array Value) (h : ts.size ≤ cur.size) : (Sort.putCells id 0 ts cur).toList.take ts.size = ts.toList := by
  apply List.ext_getElem?
  intro j
  by_cases hj : j < ts.size
  · rw [List.getElem?_take_of_lt hj, Array.getElem?_toList]
    simp [putCells, hj, show j < cur.size by omega]
  · rw [List.getElem?_take_eq_none (by omega), List.getElem?_eq_none (by simp; omega)]
/-- A sorted permutation of lines that rise is these lines. -/
theorem srt_eq {l m : List LnD} {d : Array LnD} (hp : l.Perm m) (hm : m.Pairwise fun x y => x.f < y.f) (h1 : PermIn 0 l.toArray.size l.toArray d) (h2 : SortedIn (ltOf fun x y : LnD => Lib.compareInt x.f y.f) 0 l.toArray.size d) : d.toList = m := by
  obtain ⟨hs, -, hpp⟩ := h1
  have hs' : d.size = l.length := by rw [hs, List.size_toArray]
  have e1 : d.extract 0 l.toArray.size = d := by rw [← hs, Array.extract_size]
  have e2 : l.toArray.extract 0 l.toArray.size = l.toArray := Array.extract_size
  rw [e1, e2, List.toList_toArray] at hpp
  have hperm : d.toList.Perm m := hpp.trans hp
  have hnod : m.Pairwise fun x y => x.f ≠ y.f := hm.imp fun h => by omega
  refine List.Perm.eq_of_pairwise (le := fun x y => x.f ≤ y.f) (fun a b ha hb h h' => ?_) ?_ (hm.imp fun h => by omega) hperm
  · have hab : a.f = b.f := by omega
    have ha' := hperm.mem_iff.1 ha
    obtain ⟨i, hi, rfl⟩ := List.mem_iff_getElem.1 ha'
    obtain ⟨j, hj, rfl⟩ := List.mem_iff_getElem.1 hb
    have hpw := List.pairwise_iff_getElem.1 hnod
    rcases Nat.lt_trichotomy i j with h3 | rfl | h3
    · exact absurd hab (hpw i j hi hj h3)
    · rfl
    · exact absurd hab.symm (hpw j i hj hi h3)
  · rw [List.pairwise_iff_getElem]
    intro i j hi hj hij
    have := h2 i j (Nat.zero_le _) hij (by rw [List.size_toArray, ← hs']; simpa using hj)
    rw [ltF, decide_eq_false_iff_not, getElem!_pos d j (by simpa using hj), getElem!_pos d i (by simpa using hi)] at this
    rw [Array.getElem_toList, Array.getElem_toList]
    omega
theorem lenB (F : Heap) : FnK Try.prog 26 #[.int .u64 0] F (fun v F' => (∃ n : Int, v = .int .i64 n) ∧ F' = F) :=
  ⟨⟨_, Try.func26, rfl, rfl⟩, fun w hw => (Any.bits_Len (SlLaysF0.n15.bits (P := Try.prog) (ρ := srtRen) { srtLays with }) 0 w (by decide) (by decide)).mono fun e w' h => ⟨_, F, h.1, by rw [h.2]; exact hw, by rw [h.2]; exact Rest.refl w, ⟨_, rfl⟩, rfl⟩⟩
theorem insNilF (c : Value) (F : Heap) : FnK Try.prog 28 #[.slice none 0 0, .int .i64 0, .int .i64 0, c] F (fun v F' => v = .tuple #[] ∧ F' = F) := by
  (refine fn_walk tab_ok Try.func28 rfl rfl rfl rfl ?_; (conv => whnf))
  refine loop_slots [2, 8] (fun k vs F' => vs = [.int .i64 0, .int .i64 1] ∧ F' = F) 0 ⟨rfl, rfl⟩ ?_
  rintro k vs F1 ρ ⟨rfl, rfl⟩
  ((conv => whnf); repeat (first | (apply load_at; (conv => lhs; whnf); (with_reducible assumption); rfl; (conv => whnf)) | (apply load_at; (conv => lhs; rw [add_plain, add_plain]); (with_reducible assumption); rfl; (conv => whnf)) | (apply loads_at; (conv => lhs; whnf); (with_reducible assumption); rfl; (conv => whnf)) | (refine ⟨⟨by omega, by omega⟩, ?_⟩; (conv => whnf))))
  exact ⟨rfl, rfl⟩
theorem pdqNilF (n : Int) (c : Value) (F : Heap) : FnK Try.prog 25 #[.slice none 0 0, .int .i64 0, .int .i64 0, .int .i64 n, c] F (fun v F' => v = .tuple #[] ∧ F' = F) := by
  have h := insNilF c F
  (refine fn_walk tab_ok Try.func25 rfl rfl rfl rfl ?_; (conv => whnf))
  refine loop_slots [0, 1, 2, 4] (fun k vs F' => vs = [.slice none 0 0, .int .i64 0, .int .i64 0, c] ∧ F' = F) 0 ⟨rfl, rfl⟩ ?_
  rintro k vs F1 ρ ⟨rfl, rfl⟩
  ((conv => whnf); repeat (first | (apply load_at; (conv => lhs; whnf); (with_reducible assumption); rfl; (conv => whnf)) | (apply load_at; (conv => lhs; rw [add_plain, add_plain]); (with_reducible assumption); rfl; (conv => whnf)) | (apply loads_at; (conv => lhs; whnf); (with_reducible assumption); rfl; (conv => whnf)) | (refine ⟨⟨by omega, by omega⟩, ?_⟩; (conv => whnf))))
  refine call_of h ?_
  rintro v F2 ⟨rfl, rfl⟩
  ((conv => whnf); repeat (first | (apply load_at; (conv => lhs; whnf); (with_reducible assumption); rfl; (conv => whnf)) | (apply load_at; (conv => lhs; rw [add_plain, add_plain]); (with_reducible assumption); rfl; (conv => whnf)) | (apply loads_at; (conv => lhs; whnf); (with_reducible assumption); rfl; (conv => whnf)) | (refine ⟨⟨by omega, by omega⟩, ?_⟩; (conv => whnf))))
  exact ⟨rfl, rfl⟩
theorem sortF {F0 F : Heap} {S : Value} (l m : List LnD) (hM : Mine F0 F S 27 4 l.length (rowS lnC l)) (hl : l.length ≤ 1000000) (hp : l.Perm m) (hm : m.Pairwise fun x y => x.f < y.f) :
    FnK Try.prog 20 #[S, .func (.func 21) #[] #[]] F (fun v F' => v = .tuple #[] ∧ Mine F0 F' S 27 4 m.length (rowS lnC m) ∧ Keeps F F' (blk S)) := by
  have hlm : m.length = l.length := hp.length_eq.symm
  obtain ⟨hlen, h2⟩ := hM.own
  rcases h2 with ⟨rfl, h0⟩ | ⟨g, c, cs, rfl, ⟨fz, hb, hf⟩, hsz, hnc, ht⟩
  · have e : l = [] := List.length_eq_zero_iff.1 h0
    subst e
    obtain rfl : m = [] := List.length_eq_zero_iff.1 hlm
    have k1 := lenB F
    have k2 := fun n c => pdqNilF n c F
    (refine fn_walk tab_ok Try.func20 rfl rfl rfl rfl ?_; (conv => whnf))
    refine call_of k1 ?_
    rintro v F ⟨⟨n, rfl⟩, rfl⟩
    ((conv => whnf); repeat (first | (apply load_at; (conv => lhs; whnf); (with_reducible assumption); rfl; (conv => whnf)) | (apply load_at; (conv => lhs; rw [add_plain, add_plain]); (with_reducible assumption); rfl; (conv => whnf)) | (apply loads_at; (conv => lhs; whnf); (with_reducible assumption); rfl; (conv => whnf)) | (refine ⟨⟨by omega, by omega⟩, ?_⟩; (conv => whnf))))
    refine call_of (k2 n _) ?_
    rintro v F ⟨rfl, rfl⟩
    ((conv => whnf); repeat (first | (apply load_at; (conv => lhs; whnf); (with_reducible assumption); rfl; (conv => whnf)) | (apply load_at; (conv => lhs; rw [add_plain, add_plain]); (with_reducible assumption); rfl; (conv => whnf)) | (apply loads_at; (conv => lhs; whnf); (with_reducible assumption); rfl; (conv => whnf)) | (refine ⟨⟨by omega, by omega⟩, ?_⟩; (conv => whnf))))
    exact ⟨rfl, hM, fun b o h _ => h⟩
  · refine ⟨⟨_, Try.func20, rfl, rfl⟩, fun w hw => ?_⟩
    have hwb := hw _ _ hb
    have hg : g < w.heap.size := hw.lt hb
    have hfs : (flatK lnC 4 l.toArray).size = l.length * 4 := by rw [size_flatK, List.size_toArray]
    have hcn : l.length * 4 ≤ c * 4 := Nat.mul_le_mul_right 4 hnc
    have hH : HoldsK lnC 4 w g 0 l.toArray := holds_vals hw hb hf (by rw [hfs]; omega) (by rw [hfs, flat_lns]; exact ht)
    have eg : ∀ args w, (callFunc 21 args).run Try.prog w = .ok (.enter 21 args) w := enters_of Try.func21 (by kernel_rfl) rfl
    have hcon := AnyQ.slices_SortFunc srtLays 4 Try.isAgg27 Try.sizeOf27 lnC lnC_len ln_one (fun x y => Lib.compareInt x.f y.f) swoF 21 #[] g 0 c l.toArray w eg (fundsLays g 0 l.toArray.size w) hH hg (by rw [List.size_toArray]; omega)
    rw [List.size_toArray] at hcon
    refine hcon.mono ?_
    rintro e w' ⟨rfl, d, n, os, hpi, hso, rfl⟩
    have hd := srt_eq hp hm (by rw [List.size_toArray]; exact hpi) (by rw [List.size_toArray]; exact hso)
    have hda : d = m.toArray := by rw [← hd]
    have hvl : (flatK lnC 4 d).toList = rowS lnC m := by rw [hda]; exact flat_lns m
    have hvs : (flatK lnC 4 d).size = l.length * 4 := by rw [hda, size_flatK, List.size_toArray, hlm]
    have h1 := heap_vals (w := w) (n := n) (os := os) (flatK lnC 4 d) hwb
    obtain ⟨_, _, _, _, h2⟩ := grown_vals (w := w) (g := g) (n := n) (os := os) (flatK lnC 4 d)
    have htk := take_vals cs (flatK lnC 4 d) (by rw [hvs]; omega)
    have hcs : (putCells id 0 (flatK lnC 4 d) cs).size = cs.size := by simp [putCells]
    rw [hvl, hvs] at htk
    show ∃ v F', _ = _ ∧ Has F' (Sort.grow (Sort.putRow id (Sort.ahead w n) g 0 (flatK lnC 4 d)) os) ∧ Go.Al.Rest w (Sort.grow (Sort.putRow id (Sort.ahead w n) g 0 (flatK lnC 4 d)) os) ∧ _
    generalize flatK lnC 4 d = vs at h1 h2 htk hcs ⊢
    generalize putCells id 0 vs cs = cs' at h1 hcs htk
    have hkeep : ∀ k, k < w.heap.size → g ≠ k → (Sort.grow (Sort.putRow id (Sort.ahead w n) g 0 vs) os).heap[k]? = w.heap[k]? := fun k hk hne => h2 k hk (fun e => hne (Option.some.inj e).symm)
    refine ⟨_, F.put g (.cells cs' 27 fz), rfl, fun b o hbo => ?_, ⟨rfl, rfl, rfl, by simp [Sort.grow, Sort.putRow, Sort.mapBlock, Sort.ahead], fun k hk => ?_⟩, rfl, ⟨⟨by rw [rowS_len lnC_len], .inr ⟨g, c, cs', by rw [hlm], ⟨fz, Heap.put_same _ _ _, by rw [hcs]; exact hf⟩, by rw [hcs, hsz], by rw [hlm]; exact hnc, by rw [hlm]; exact htk⟩⟩, hM.fresh, fun b o hbo => ?_⟩, fun b o hbo hne => ?_⟩
    · by_cases e : b = g
      · subst e
        rw [Heap.put_same] at hbo
        rw [h1]; exact hbo
      · rw [Heap.put_other _ _ e] at hbo
        rw [hkeep b (hw.lt hbo) (Ne.symm e)]
        exact hw _ _ hbo
    · have hlt := (Array.getElem?_eq_some_iff.1 hk).1
      rw [hkeep k hlt (fun e => by subst e; rw [hwb] at hk; cases hk)]
      exact hk
    · rw [Heap.put_other _ _ (fun e => by subst e; rw [hM.fresh b rfl] at hbo; cases hbo)]
      exact hM.ext _ _ hbo
    · rw [Heap.put_other _ _ (fun e => hne (by rw [e]; rfl))]
      exact hbo
end Go.Proofs.Ytpbpjmnnbmjmbaa.Al
/- Interfund lines: the reference's Funds. -/
namespace Go.Proofs.Ytpbpjmnnbmjmbaa.Al
open Go Go.Al Go.Proofs Go.RowKit
set_option maxHeartbeats 8000000
set_option maxRecDepth 100000
set_option linter.unusedVariables false
set_option linter.unusedSimpArgs false
theorem rFunds (l : List LnD) (A : Option Addr) (c : Nat) (F : Heap) (hr : RowAt F A (rowS lnC l)) (hl : l.length ≤ 100000) :
    FnK Try.prog 16 #[.slice A l.length c] F (fun v F' => Mine F F' v 27 4 (fundsS l).length (rowS lnC (fundsS l))) := by
  have hfun : fundsS l = (sumS l []).map fdL := rfl
  rw [hfun, List.length_map]
  have hstep := fun i h => sum_take l [] i h
  have hsrt := fun i => sum_srt (l.take i) (S := []) List.Pairwise.nil
  have hlen := fun i => sum_len (l.take i) []
  have hend : sumS (l.take l.length) [] = sumS l [] := by rw [List.take_length]
  have h0 : sumS (l.take 0) [] = [] := rfl
  (refine fn_walk tab_ok Try.func16 rfl rfl rfl rfl ?_; (conv => whnf))
  refine loop_slots [0, 3, 4] (fun k vs F' => ∃ (i : Nat) (T : Value), i + k = l.length ∧ vs = [.slice A l.length c, T, .int .i64 (i : Int)] ∧ Mine F F' T 27 4 (sumS (l.take i) []).length (rowS lnC ((sumS (l.take i) []).map fdL))) l.length ⟨0, .slice none 0 0, by omega, rfl, Mine.nil _ _ _ _ (Ext.refl _)⟩ ?_
  rintro k vs F2 ρ ⟨i, T, hik, rfl, hM⟩
  ((conv => whnf); repeat (first | (apply load_at; (conv => lhs; whnf); (with_reducible assumption); rfl; (conv => whnf)) | (apply load_at; (conv => lhs; rw [add_plain, add_plain]); (with_reducible assumption); rfl; (conv => whnf)) | (apply loads_at; (conv => lhs; whnf); (with_reducible assumption); rfl; (conv => whnf)) | (refine ⟨⟨by omega, by omega⟩, ?_⟩; (conv => whnf))))
  refine cond_split (fun h => ?_) (fun h => ?_)
  rotate_left
  · have hi : i = l.length := by
      have h : decide ((i : Int) < (l.length : Int)) = false := h
      have := of_decide_eq_false h
      omega
    subst hi
    rw [hend] at hM
    ((conv => whnf); repeat (first | (apply load_at; (conv => lhs; whnf); (with_reducible assumption); rfl; (conv => whnf)) | (apply load_at; (conv => lhs; rw [add_plain, add_plain]); (with_reducible assumption); rfl; (conv => whnf)) | (apply loads_at; (conv => lhs; whnf); (with_reducible assumption); rfl; (conv => whnf)) | (refine ⟨⟨by omega, by omega⟩, ?_⟩; (conv => whnf))))
    exact hM
  have hi : i < l.length := by
    have h : decide ((i : Int) < (l.length : Int)) = true := h
    have := of_decide_eq_true h
    omega
  clear h
  have hi1 : IntKind.i64.wrap ((i : Int) + 1) = ((i + 1 : Nat) : Int) := wrap_succ (j := i) (by omega)
  have hst := hstep i hi
  have hS := hsrt i
  have hSl := hlen i
  rw [List.length_take] at hSl
  have hx : l[i]? = some l[i] := List.getElem?_eq_getElem hi
  generalize sumS (l.take i) [] = S at hst hS hSl hM
  generalize l[i] = x at hst hx
  obtain ⟨ad, rfl⟩ := hr.some (by rw [rowS_len lnC_len]; omega)
  have cxF := rowS_cell lnC_len hr hx (q := 0) rfl
  have caF := rowS_cell lnC_len hr hx (q := 3) rfl
  have cx := hM.ext.cell cxF
  have ca := hM.ext.cell caF
  obtain ⟨A2, c2, rfl, hc2, hr2⟩ := hM.own.row
  have hSx := add_at S
  have hget : ∀ (j : Nat) (y : Int × Int), S[j]? = some y → (S.map fdL)[j]? = some (fdL y) := fun j y h => by rw [List.getElem?_map, h]; rfl
  simp only [List.length_nil, Nat.zero_add] at hSl
  ((conv => whnf); repeat (first | (apply load_at; (conv => lhs; whnf); (with_reducible assumption); rfl; (conv => whnf)) | (apply load_at; (conv => lhs; rw [add_plain, add_plain]); (with_reducible assumption); rfl; (conv => whnf)) | (apply loads_at; (conv => lhs; whnf); (with_reducible assumption); rfl; (conv => whnf)) | (refine ⟨⟨by omega, by omega⟩, ?_⟩; (conv => whnf))))
  refine loop_slots [0, 3, 4, 5] (fun k2 vs F' => ∃ j : Nat, j + k2 = S.length ∧ vs = [.slice (some ad) l.length c, .slice A2 S.length c2, .int .i64 (i : Int), .int .i64 (j : Int)] ∧ F2 = F' ∧ ∀ (m : Nat) y, m < j → S[m]? = some y → y.1 < x.f) S.length ⟨0, by omega, rfl, rfl, fun m y h => by omega⟩ ?_
  rintro k2 vs F3 ρ2 ⟨j, hjk, rfl, rfl, hlt⟩
  ((conv => whnf); repeat (first | (apply load_at; (conv => lhs; whnf); (with_reducible assumption); rfl; (conv => whnf)) | (apply load_at; (conv => lhs; rw [add_plain, add_plain]); (with_reducible assumption); rfl; (conv => whnf)) | (apply loads_at; (conv => lhs; whnf); (with_reducible assumption); rfl; (conv => whnf)) | (refine ⟨⟨by omega, by omega⟩, ?_⟩; (conv => whnf))))
  refine draw_tree tab_ok (by kernel_rfl) [] (DT.row [0, 1, 2, 3, 4, 5, 6, 7, 8, 9, 10, 11, 12, 13, 14, 15, 16] .nil) (by kernel_rfl) ?_
  ((conv => whnf); repeat (first | (apply load_at; (conv => lhs; whnf); (with_reducible assumption); rfl; (conv => whnf)) | (apply load_at; (conv => lhs; rw [add_plain, add_plain]); (with_reducible assumption); rfl; (conv => whnf)) | (apply loads_at; (conv => lhs; whnf); (with_reducible assumption); rfl; (conv => whnf)) | (refine ⟨⟨by omega, by omega⟩, ?_⟩; (conv => whnf))))
  cases hd : decide ((j : Int) < (S.length : Int)) with
  | true =>
    have hj : j < S.length := by have := of_decide_eq_true hd; omega
    have hd9 : decide ((j : Int) < (S.length : Int)) = true := hd
    clear hd
    obtain ⟨a2, rfl⟩ := hr2.some (by rw [rowS_len lnC_len, List.length_map]; omega)
    obtain ⟨y, hy⟩ : ∃ y, S[j]? = some y := ⟨_, List.getElem?_eq_getElem hj⟩
    have cy := rowS_cell lnC_len hr2 (hget j y hy) (q := 0) rfl
    have cz := rowS_cell lnC_len hr2 (hget j y hy) (q := 3) rfl
    ((conv => whnf); repeat (first | (apply load_at; (conv => lhs; whnf); (with_reducible assumption); rfl; (conv => whnf)) | (apply load_at; (conv => lhs; rw [add_plain, add_plain]); (with_reducible assumption); rfl; (conv => whnf)) | (apply loads_at; (conv => lhs; whnf); (with_reducible assumption); rfl; (conv => whnf)) | (refine ⟨⟨by omega, by omega⟩, ?_⟩; (conv => whnf))))
    refine load_step cy ?_
    ((conv => whnf); repeat (first | (apply load_at; (conv => lhs; whnf); (with_reducible assumption); rfl; (conv => whnf)) | (apply load_at; (conv => lhs; rw [add_plain, add_plain]); (with_reducible assumption); rfl; (conv => whnf)) | (apply loads_at; (conv => lhs; whnf); (with_reducible assumption); rfl; (conv => whnf)) | (refine ⟨⟨by omega, by omega⟩, ?_⟩; (conv => whnf))))
    refine load_step cx ?_
    ((conv => whnf); repeat (first | (apply load_at; (conv => lhs; whnf); (with_reducible assumption); rfl; (conv => whnf)) | (apply load_at; (conv => lhs; rw [add_plain, add_plain]); (with_reducible assumption); rfl; (conv => whnf)) | (apply loads_at; (conv => lhs; whnf); (with_reducible assumption); rfl; (conv => whnf)) | (refine ⟨⟨by omega, by omega⟩, ?_⟩; (conv => whnf))))
    refine cond_split (fun h => ?_) (fun h => ?_)
    · have h := of_decide_eq_true (show decide (y.1 < x.f) = true from h)
      ((conv => whnf); repeat (first | (apply load_at; (conv => lhs; whnf); (with_reducible assumption); rfl; (conv => whnf)) | (apply load_at; (conv => lhs; rw [add_plain, add_plain]); (with_reducible assumption); rfl; (conv => whnf)) | (apply loads_at; (conv => lhs; whnf); (with_reducible assumption); rfl; (conv => whnf)) | (refine ⟨⟨by omega, by omega⟩, ?_⟩; (conv => whnf))))
      refine ⟨k2 - 1, by omega, j + 1, by omega, ?_, rfl, fun m u hm hu => ?_⟩
      · rw [← wrap_succ (j := j) (by omega)]
        rfl
      · by_cases e : m = j
        · subst e
          rw [hy] at hu
          cases hu
          exact h
        · exact hlt m u (by omega) hu
    have hge := of_decide_eq_false (show decide (y.1 < x.f) = false from h)
    clear h
    have hadd := hSx j x.f x.a (by omega) hlt (fun u hu => by rw [hy] at hu; cases hu; exact hge)
    rw [hy] at hadd
    dsimp only at hadd
    refine short [0, 3, 4, 5] [.slice (some ad) l.length c, .slice (some a2) S.length c2, .int .i64 (i : Int), .int .i64 (j : Int)] rfl fun ρ => ?_
    ((conv => whnf); repeat (first | (apply load_at; (conv => lhs; whnf); (with_reducible assumption); rfl; (conv => whnf)) | (apply load_at; (conv => lhs; rw [add_plain, add_plain]); (with_reducible assumption); rfl; (conv => whnf)) | (apply loads_at; (conv => lhs; whnf); (with_reducible assumption); rfl; (conv => whnf)) | (refine ⟨⟨by omega, by omega⟩, ?_⟩; (conv => whnf))))
    refine draw_tree tab_ok (by kernel_rfl) [] (DT.row [0, 1, 2, 3, 4, 5, 6, 7, 8, 9, 10, 11, 12, 13, 14, 15, 16] .nil) (by kernel_rfl) ?_
    ((conv => whnf); repeat (first | (apply load_at; (conv => lhs; whnf); (with_reducible assumption); rfl; (conv => whnf)) | (apply load_at; (conv => lhs; rw [add_plain, add_plain]); (with_reducible assumption); rfl; (conv => whnf)) | (apply loads_at; (conv => lhs; whnf); (with_reducible assumption); rfl; (conv => whnf)) | (refine ⟨⟨by omega, by omega⟩, ?_⟩; (conv => whnf))))
    rw [hd9]
    ((conv => whnf); repeat (first | (apply load_at; (conv => lhs; whnf); (with_reducible assumption); rfl; (conv => whnf)) | (apply load_at; (conv => lhs; rw [add_plain, add_plain]); (with_reducible assumption); rfl; (conv => whnf)) | (apply loads_at; (conv => lhs; whnf); (with_reducible assumption); rfl; (conv => whnf)) | (refine ⟨⟨by omega, by omega⟩, ?_⟩; (conv => whnf))))
    refine load_step cy ?_
    ((conv => whnf); repeat (first | (apply load_at; (conv => lhs; whnf); (with_reducible assumption); rfl; (conv => whnf)) | (apply load_at; (conv => lhs; rw [add_plain, add_plain]); (with_reducible assumption); rfl; (conv => whnf)) | (apply loads_at; (conv => lhs; whnf); (with_reducible assumption); rfl; (conv => whnf)) | (refine ⟨⟨by omega, by omega⟩, ?_⟩; (conv => whnf))))
    refine load_step cx ?_
    ((conv => whnf); repeat (first | (apply load_at; (conv => lhs; whnf); (with_reducible assumption); rfl; (conv => whnf)) | (apply load_at; (conv => lhs; rw [add_plain, add_plain]); (with_reducible assumption); rfl; (conv => whnf)) | (apply loads_at; (conv => lhs; whnf); (with_reducible assumption); rfl; (conv => whnf)) | (refine ⟨⟨by omega, by omega⟩, ?_⟩; (conv => whnf))))
    refine cond_split (fun h => ?_) (fun h => ?_)
    · have h : (y.1 == x.f) = true := h
      have hyx : y.1 = x.f := by simpa using h
      clear h
      rw [if_pos hyx] at hadd
      obtain ⟨b0, rfl⟩ : ∃ b0, a2 = ⟨b0, 0, none⟩ := by
        rcases hM.own.2 with ⟨h1, _⟩ | ⟨b0, _, _, h1, _⟩
        · cases h1
        · cases h1; exact ⟨b0, rfl⟩
      have hfr : F b0 = none := hM.fresh b0 rfl
      refine short [0, 3, 4, 5] [.slice (some ad) l.length c, .slice (some ⟨b0, 0, none⟩) S.length c2, .int .i64 (i : Int), .int .i64 (j : Int)] rfl fun ρ => ?_
      ((conv => whnf); repeat (first | (apply load_at; (conv => lhs; whnf); (with_reducible assumption); rfl; (conv => whnf)) | (apply load_at; (conv => lhs; rw [add_plain, add_plain]); (with_reducible assumption); rfl; (conv => whnf)) | (apply loads_at; (conv => lhs; whnf); (with_reducible assumption); rfl; (conv => whnf)) | (refine ⟨⟨by omega, by omega⟩, ?_⟩; (conv => whnf))))
      refine draw_walk tab_ok (by kernel_rfl) [0, 1, 2, 3, 4, 5, 6, 7, 8, 9, 10, 11, 12, 13, 14, 15] (by kernel_rfl) ?_
      ((conv => whnf); repeat (first | (apply load_at; (conv => lhs; whnf); (with_reducible assumption); rfl; (conv => whnf)) | (apply load_at; (conv => lhs; rw [add_plain, add_plain]); (with_reducible assumption); rfl; (conv => whnf)) | (apply loads_at; (conv => lhs; whnf); (with_reducible assumption); rfl; (conv => whnf)) | (refine ⟨⟨by omega, by omega⟩, ?_⟩; (conv => whnf))))
      refine load_step cz ?_
      ((conv => whnf); repeat (first | (apply load_at; (conv => lhs; whnf); (with_reducible assumption); rfl; (conv => whnf)) | (apply load_at; (conv => lhs; rw [add_plain, add_plain]); (with_reducible assumption); rfl; (conv => whnf)) | (apply loads_at; (conv => lhs; whnf); (with_reducible assumption); rfl; (conv => whnf)) | (refine ⟨⟨by omega, by omega⟩, ?_⟩; (conv => whnf))))
      refine load_step ca ?_
      ((conv => whnf); repeat (first | (apply load_at; (conv => lhs; whnf); (with_reducible assumption); rfl; (conv => whnf)) | (apply load_at; (conv => lhs; rw [add_plain, add_plain]); (with_reducible assumption); rfl; (conv => whnf)) | (apply loads_at; (conv => lhs; whnf); (with_reducible assumption); rfl; (conv => whnf)) | (refine ⟨⟨by omega, by omega⟩, ?_⟩; (conv => whnf))))
      refine own_setZ lnC_len hM.own (by rw [List.length_map]) (j := j) (q := 3) (by decide) (hget j y hy) (by rw [Int.toNat_natCast, add_plain, Nat.zero_add]; rfl) (y := fdL (y.1, IntKind.i64.wrap (y.2 + x.a))) rfl rfl fun F8 hO8 hK8 => ?_
      have hM8 : Mine F F8 (.slice (some ⟨b0, 0, none⟩) S.length c2) 27 4 (addA S x.f x.a).length (rowS lnC ((addA S x.f x.a).map fdL)) := by
        rw [hadd, List.length_set, List.map_set, ← hyx]
        exact ⟨hO8, hM.fresh, hK8.ext hM.ext hM.fresh⟩
      ((conv => whnf); repeat (first | (apply load_at; (conv => lhs; whnf); (with_reducible assumption); rfl; (conv => whnf)) | (apply load_at; (conv => lhs; rw [add_plain, add_plain]); (with_reducible assumption); rfl; (conv => whnf)) | (apply loads_at; (conv => lhs; whnf); (with_reducible assumption); rfl; (conv => whnf)) | (refine ⟨⟨by omega, by omega⟩, ?_⟩; (conv => whnf))))
      refine ⟨k - 1, by omega, i + 1, .slice (some ⟨b0, 0, none⟩) S.length c2, by omega, ?_, by rw [hst]; exact hM8⟩
      exact Eq.trans (b := [.slice (some ad) l.length c, .slice (some ⟨b0, 0, none⟩) S.length c2, .int .i64 (IntKind.i64.wrap ((i : Int) + 1))]) rfl (by rw [hi1])
    · have h : (y.1 == x.f) = false := h
      have hyx : ¬ y.1 = x.f := by simpa using h
      rw [if_neg hyx] at hadd
      clear h
      have hnl : j ≤ S.length := by omega
      have hcut1 : ∀ F', Ext F2 F' → RowAt F' (if c2 = 0 then (some a2 : Option Addr) else (some a2 : Option Addr).map (·.add (0 * 4))) (rowS lnC ((S.take j).map fdL)) := fun F' hE => by
        have := rowZ_cut lnC_len (by decide) 0 j c2 (hr2.mono hE) (by omega) (by rw [List.length_map]; omega)
        rwa [List.drop_zero, ← List.map_take] at this
      have hcut2 : ∀ F', Ext F2 F' → RowAt F' (if c2 = j then (some a2 : Option Addr) else (some a2 : Option Addr).map (·.add (j * 4))) (rowS lnC ((S.drop j).map fdL)) := fun F' hE => by
        have := rowZ_cut lnC_len (by decide) j (S.length - j) c2 (hr2.mono hE) (by omega) (by rw [List.length_map]; omega)
        rwa [List.take_of_length_le (by rw [List.length_drop, List.length_map]; exact Nat.le_refl _), ← List.map_drop] at this
      have hln10 : (S.take j ++ (x.f, x.a) :: S.drop j).length = j + 1 + (S.length - j) := by
        rw [List.length_append, List.length_take, List.length_cons, List.length_drop, Nat.min_eq_left hnl]; omega
      have hrow10 : rowS lnC ((S.take j ++ (x.f, x.a) :: S.drop j).map fdL) = rowS lnC ((S.take j).map fdL) ++ (rowS lnC [fdL (x.f, x.a)] ++ rowS lnC ((S.drop j).map fdL)) := by
        rw [List.map_append, List.map_cons, rowZ_app, ← List.singleton_append, rowZ_app]
      refine short [0, 3, 4, 5] [.slice (some ad) l.length c, .slice (some a2) S.length c2, .int .i64 (i : Int), .int .i64 (j : Int)] rfl fun ρ => ?_
      ((conv => whnf); repeat (first | (apply load_at; (conv => lhs; whnf); (with_reducible assumption); rfl; (conv => whnf)) | (apply load_at; (conv => lhs; rw [add_plain, add_plain]); (with_reducible assumption); rfl; (conv => whnf)) | (apply loads_at; (conv => lhs; whnf); (with_reducible assumption); rfl; (conv => whnf)) | (refine ⟨⟨by omega, by omega⟩, ?_⟩; (conv => whnf))))
      refine draw_tree_at tab_ok (by kernel_rfl) [8, 13] (DT.row [0, 1, 2, 4, 5, 6, 7, 8, 9, 10, 11, 12, 13, 14, 17, 18, 19] (.fork (DT.row [3, 15, 16, 20, 21] .nil) (DT.row [15, 3, 16, 20, 21] .nil))) (by kernel_rfl) F hM.ext ?_
      ((conv => whnf); repeat (first | (apply load_at; (conv => lhs; whnf); (with_reducible assumption); rfl; (conv => whnf)) | (apply load_at; (conv => lhs; rw [add_plain, add_plain]); (with_reducible assumption); rfl; (conv => whnf)) | (apply loads_at; (conv => lhs; whnf); (with_reducible assumption); rfl; (conv => whnf)) | (refine ⟨⟨by omega, by omega⟩, ?_⟩; (conv => whnf))))
      refine load_step cxF ?_
      ((conv => whnf); repeat (first | (apply load_at; (conv => lhs; whnf); (with_reducible assumption); rfl; (conv => whnf)) | (apply load_at; (conv => lhs; rw [add_plain, add_plain]); (with_reducible assumption); rfl; (conv => whnf)) | (apply loads_at; (conv => lhs; whnf); (with_reducible assumption); rfl; (conv => whnf)) | (refine ⟨⟨by omega, by omega⟩, ?_⟩; (conv => whnf))))
      refine load_step caF ?_
      ((conv => whnf); repeat (first | (apply load_at; (conv => lhs; whnf); (with_reducible assumption); rfl; (conv => whnf)) | (apply load_at; (conv => lhs; rw [add_plain, add_plain]); (with_reducible assumption); rfl; (conv => whnf)) | (apply loads_at; (conv => lhs; whnf); (with_reducible assumption); rfl; (conv => whnf)) | (refine ⟨⟨by omega, by omega⟩, ?_⟩; (conv => whnf))))
      refine ⟨?_, ?_⟩
      · ((conv => whnf); repeat (first | (apply load_at; (conv => lhs; whnf); (with_reducible assumption); rfl; (conv => whnf)) | (apply load_at; (conv => lhs; rw [add_plain, add_plain]); (with_reducible assumption); rfl; (conv => whnf)) | (apply loads_at; (conv => lhs; whnf); (with_reducible assumption); rfl; (conv => whnf)) | (refine ⟨⟨by omega, by omega⟩, ?_⟩; (conv => whnf))))
        refine append_mine tab_ok rfl rfl ?hq rfl rfl ⟨_, rfl, fun k h => by cases h⟩ ⟨_, rfl, rfl⟩ (by decide) (Mine.nil F2 F2 _ _ (Ext.refl _)) (m := j) (ys := rowS lnC ((S.take j).map fdL)) (y := .slice (if c2 = 0 then (some a2 : Option Addr) else (some a2 : Option Addr).map (·.add (0 * 4))) j c2) ⟨by rw [rowS_len lnC_len, List.length_map, List.length_take, Nat.min_eq_left hnl], .inl ⟨_, _, rfl, hcut1 _ (Ext.refl _)⟩⟩ (lns_one _) (by show 2 * (0 + j) * 32 ≤ _; omega) fun s8 F8 hM8 _ => ?_
        case hq => rfl
        rw [Nat.zero_add, List.nil_append] at hM8
        have E8 := hM8.ext
        have hnew : ∀ {S' : Value} (k : Nat), blk S' = some k → (∀ b, blk S' = some b → F2 b = none) → F2 k = none := fun k hk h => h k hk
        (conv => whnf)
        refine ⟨hM.ext.trans E8, ?_⟩
        ((conv => whnf); repeat (first | (apply load_at; (conv => lhs; whnf); (with_reducible assumption); rfl; (conv => whnf)) | (apply load_at; (conv => lhs; rw [add_plain, add_plain]); (with_reducible assumption); rfl; (conv => whnf)) | (apply loads_at; (conv => lhs; whnf); (with_reducible assumption); rfl; (conv => whnf)) | (refine ⟨⟨by omega, by omega⟩, ?_⟩; (conv => whnf))))
        refine new_step (.cells (rowS lnC [fdL (x.f, x.a)]).toArray 27) rfl fun g h0_g => ?_
        have hE_g := Ext.new h0_g (.cells (rowS lnC [fdL (x.f, x.a)]).toArray 27)
        have hB_g := Heap.put_same F8 g (.cells (rowS lnC [fdL (x.f, x.a)]).toArray 27)
        generalize F8.put g _ = F9 at hE_g hB_g ⊢
        (conv => whnf)
        refine ⟨hM.ext.trans (E8.trans hE_g), ?_⟩
        ((conv => whnf); repeat (first | (apply load_at; (conv => lhs; whnf); (with_reducible assumption); rfl; (conv => whnf)) | (apply load_at; (conv => lhs; rw [add_plain, add_plain]); (with_reducible assumption); rfl; (conv => whnf)) | (apply loads_at; (conv => lhs; whnf); (with_reducible assumption); rfl; (conv => whnf)) | (refine ⟨⟨by omega, by omega⟩, ?_⟩; (conv => whnf))))
        refine append_mine tab_ok (m := 1) (ys := rowS lnC [fdL (x.f, x.a)]) (y := .slice (some ⟨g, 0, none⟩) 1 1) rfl rfl rfl rfl rfl ⟨_, rfl, fun k h => by cases h⟩ ⟨_, rfl, rfl⟩ (by decide) (hM8.mono hE_g) ⟨rfl, .inl ⟨_, _, rfl, row_blk hB_g⟩⟩ (lns_one _) (by show 2 * (j + 1) * 32 ≤ _; omega) fun s10 F10 hM10 _ => ?_
        have E10 := hM10.ext
        (conv => whnf)
        refine ⟨hM.ext.trans E10, ?_⟩
        ((conv => whnf); repeat (first | (apply load_at; (conv => lhs; whnf); (with_reducible assumption); rfl; (conv => whnf)) | (apply load_at; (conv => lhs; rw [add_plain, add_plain]); (with_reducible assumption); rfl; (conv => whnf)) | (apply loads_at; (conv => lhs; whnf); (with_reducible assumption); rfl; (conv => whnf)) | (refine ⟨⟨by omega, by omega⟩, ?_⟩; (conv => whnf))))
        refine append_mine tab_ok rfl rfl ?hq2 rfl rfl ⟨_, rfl, fun k h => by cases h⟩ ⟨_, rfl, rfl⟩ (by decide) hM10 (m := S.length - j) (ys := rowS lnC ((S.drop j).map fdL)) (y := .slice (if c2 = j then (some a2 : Option Addr) else (some a2 : Option Addr).map (·.add (j * 4))) (S.length - j) (c2 - j)) ⟨by rw [rowS_len lnC_len, List.length_map, List.length_drop], .inl ⟨_, _, rfl, hcut2 _ E10⟩⟩ (lns_one _) (by show 2 * (j + 1 + (S.length - j)) * 32 ≤ _; omega) fun s17 F17 hM17' _ => ?_
        case hq2 => rfl
        have E17 := hM17'.ext
        (conv => whnf)
        have hM17 : Mine F F17 s17 27 4 (addA S x.f x.a).length (rowS lnC ((addA S x.f x.a).map fdL)) := by
          rw [hadd, hln10, hrow10, ← List.append_assoc]
          exact ⟨hM17'.own, fun k hk => hM.ext.none (hnew k hk hM17'.fresh), hM.ext.trans E17⟩
        refine ⟨hM.ext.trans E17, ?_⟩
        ((conv => whnf); repeat (first | (apply load_at; (conv => lhs; whnf); (with_reducible assumption); rfl; (conv => whnf)) | (apply load_at; (conv => lhs; rw [add_plain, add_plain]); (with_reducible assumption); rfl; (conv => whnf)) | (apply loads_at; (conv => lhs; whnf); (with_reducible assumption); rfl; (conv => whnf)) | (refine ⟨⟨by omega, by omega⟩, ?_⟩; (conv => whnf))))
        refine ⟨k - 1, by omega, i + 1, s17, by omega, ?_, by rw [hst]; exact hM17⟩
        exact Eq.trans (b := [.slice (some ad) l.length c, s17, .int .i64 (IntKind.i64.wrap ((i : Int) + 1))]) rfl (by rw [hi1])
      · ((conv => whnf); repeat (first | (apply load_at; (conv => lhs; whnf); (with_reducible assumption); rfl; (conv => whnf)) | (apply load_at; (conv => lhs; rw [add_plain, add_plain]); (with_reducible assumption); rfl; (conv => whnf)) | (apply loads_at; (conv => lhs; whnf); (with_reducible assumption); rfl; (conv => whnf)) | (refine ⟨⟨by omega, by omega⟩, ?_⟩; (conv => whnf))))
        refine new_step (.cells (rowS lnC [fdL (x.f, x.a)]).toArray 27) rfl fun g h0_g => ?_
        have hE_g := Ext.new h0_g (.cells (rowS lnC [fdL (x.f, x.a)]).toArray 27)
        have hB_g := Heap.put_same F2 g (.cells (rowS lnC [fdL (x.f, x.a)]).toArray 27)
        generalize F2.put g _ = F9 at hE_g hB_g ⊢
        (conv => whnf)
        refine ⟨hM.ext.trans hE_g, ?_⟩
        ((conv => whnf); repeat (first | (apply load_at; (conv => lhs; whnf); (with_reducible assumption); rfl; (conv => whnf)) | (apply load_at; (conv => lhs; rw [add_plain, add_plain]); (with_reducible assumption); rfl; (conv => whnf)) | (apply loads_at; (conv => lhs; whnf); (with_reducible assumption); rfl; (conv => whnf)) | (refine ⟨⟨by omega, by omega⟩, ?_⟩; (conv => whnf))))
        refine append_mine tab_ok rfl rfl ?hq rfl rfl ⟨_, rfl, fun k h => by cases h⟩ ⟨_, rfl, rfl⟩ (by decide) (Mine.nil F9 F9 _ _ (Ext.refl _)) (m := j) (ys := rowS lnC ((S.take j).map fdL)) (y := .slice (if c2 = 0 then (some a2 : Option Addr) else (some a2 : Option Addr).map (·.add (0 * 4))) j c2) ⟨by rw [rowS_len lnC_len, List.length_map, List.length_take, Nat.min_eq_left hnl], .inl ⟨_, _, rfl, hcut1 _ hE_g⟩⟩ (lns_one _) (by show 2 * (0 + j) * 32 ≤ _; omega) fun s8 F8 hM8 _ => ?_
        case hq => rfl
        rw [Nat.zero_add, List.nil_append] at hM8
        have E8 := hM8.ext
        have hnew : ∀ {S' : Value} (k : Nat), blk S' = some k → (∀ b, blk S' = some b → F9 b = none) → F2 k = none := fun k hk h => hE_g.none (h k hk)
        have hB_g8 := E8 _ _ hB_g
        (conv => whnf)
        refine ⟨hM.ext.trans (hE_g.trans E8), ?_⟩
        ((conv => whnf); repeat (first | (apply load_at; (conv => lhs; whnf); (with_reducible assumption); rfl; (conv => whnf)) | (apply load_at; (conv => lhs; rw [add_plain, add_plain]); (with_reducible assumption); rfl; (conv => whnf)) | (apply loads_at; (conv => lhs; whnf); (with_reducible assumption); rfl; (conv => whnf)) | (refine ⟨⟨by omega, by omega⟩, ?_⟩; (conv => whnf))))
        refine append_mine tab_ok (m := 1) (ys := rowS lnC [fdL (x.f, x.a)]) (y := .slice (some ⟨g, 0, none⟩) 1 1) rfl rfl rfl rfl rfl ⟨_, rfl, fun k h => by cases h⟩ ⟨_, rfl, rfl⟩ (by decide) hM8 ⟨rfl, .inl ⟨_, _, rfl, row_blk hB_g8⟩⟩ (lns_one _) (by show 2 * (j + 1) * 32 ≤ _; omega) fun s10 F10 hM10 _ => ?_
        have E10 := hE_g.trans hM10.ext
        (conv => whnf)
        refine ⟨hM.ext.trans E10, ?_⟩
        ((conv => whnf); repeat (first | (apply load_at; (conv => lhs; whnf); (with_reducible assumption); rfl; (conv => whnf)) | (apply load_at; (conv => lhs; rw [add_plain, add_plain]); (with_reducible assumption); rfl; (conv => whnf)) | (apply loads_at; (conv => lhs; whnf); (with_reducible assumption); rfl; (conv => whnf)) | (refine ⟨⟨by omega, by omega⟩, ?_⟩; (conv => whnf))))
        refine append_mine tab_ok rfl rfl ?hq2 rfl rfl ⟨_, rfl, fun k h => by cases h⟩ ⟨_, rfl, rfl⟩ (by decide) hM10 (m := S.length - j) (ys := rowS lnC ((S.drop j).map fdL)) (y := .slice (if c2 = j then (some a2 : Option Addr) else (some a2 : Option Addr).map (·.add (j * 4))) (S.length - j) (c2 - j)) ⟨by rw [rowS_len lnC_len, List.length_map, List.length_drop], .inl ⟨_, _, rfl, hcut2 _ E10⟩⟩ (lns_one _) (by show 2 * (j + 1 + (S.length - j)) * 32 ≤ _; omega) fun s17 F17 hM17' _ => ?_
        case hq2 => rfl
        have E17 := hE_g.trans hM17'.ext
        (conv => whnf)
        have hM17 : Mine F F17 s17 27 4 (addA S x.f x.a).length (rowS lnC ((addA S x.f x.a).map fdL)) := by
          rw [hadd, hln10, hrow10, ← List.append_assoc]
          exact ⟨hM17'.own, fun k hk => hM.ext.none (hnew k hk hM17'.fresh), hM.ext.trans E17⟩
        refine ⟨hM.ext.trans E17, ?_⟩
        ((conv => whnf); repeat (first | (apply load_at; (conv => lhs; whnf); (with_reducible assumption); rfl; (conv => whnf)) | (apply load_at; (conv => lhs; rw [add_plain, add_plain]); (with_reducible assumption); rfl; (conv => whnf)) | (apply loads_at; (conv => lhs; whnf); (with_reducible assumption); rfl; (conv => whnf)) | (refine ⟨⟨by omega, by omega⟩, ?_⟩; (conv => whnf))))
        refine ⟨k - 1, by omega, i + 1, s17, by omega, ?_, by rw [hst]; exact hM17⟩
        exact Eq.trans (b := [.slice (some ad) l.length c, s17, .int .i64 (IntKind.i64.wrap ((i : Int) + 1))]) rfl (by rw [hi1])
  | false =>
    have hj : j = S.length := by have := of_decide_eq_false hd; omega
    have hd9 : decide ((j : Int) < (S.length : Int)) = false := hd
    clear hd
    have hno : S[j]? = none := List.getElem?_eq_none (by omega)
    have hadd := hSx j x.f x.a (by omega) hlt (fun u hu => by rw [hno] at hu; cases hu)
    rw [hno] at hadd
    dsimp only at hadd
    ((conv => whnf); repeat (first | (apply load_at; (conv => lhs; whnf); (with_reducible assumption); rfl; (conv => whnf)) | (apply load_at; (conv => lhs; rw [add_plain, add_plain]); (with_reducible assumption); rfl; (conv => whnf)) | (apply loads_at; (conv => lhs; whnf); (with_reducible assumption); rfl; (conv => whnf)) | (refine ⟨⟨by omega, by omega⟩, ?_⟩; (conv => whnf))))
    refine draw_tree tab_ok (by kernel_rfl) [] (DT.row [0, 1, 2, 3, 4, 5, 6, 7, 8, 9, 10, 11, 12, 13, 14, 15, 16] .nil) (by kernel_rfl) ?_
    ((conv => whnf); repeat (first | (apply load_at; (conv => lhs; whnf); (with_reducible assumption); rfl; (conv => whnf)) | (apply load_at; (conv => lhs; rw [add_plain, add_plain]); (with_reducible assumption); rfl; (conv => whnf)) | (apply loads_at; (conv => lhs; whnf); (with_reducible assumption); rfl; (conv => whnf)) | (refine ⟨⟨by omega, by omega⟩, ?_⟩; (conv => whnf))))
    rw [hd9]
    ((conv => whnf); repeat (first | (apply load_at; (conv => lhs; whnf); (with_reducible assumption); rfl; (conv => whnf)) | (apply load_at; (conv => lhs; rw [add_plain, add_plain]); (with_reducible assumption); rfl; (conv => whnf)) | (apply loads_at; (conv => lhs; whnf); (with_reducible assumption); rfl; (conv => whnf)) | (refine ⟨⟨by omega, by omega⟩, ?_⟩; (conv => whnf))))
    have hnl : j ≤ S.length := by omega
    have hcut1 : ∀ F', Ext F2 F' → RowAt F' (if c2 = 0 then A2 else A2.map (·.add (0 * 4))) (rowS lnC ((S.take j).map fdL)) := fun F' hE => by
      have := rowZ_cut lnC_len (by decide) 0 j c2 (hr2.mono hE) (by omega) (by rw [List.length_map]; omega)
      rwa [List.drop_zero, ← List.map_take] at this
    have hcut2 : ∀ F', Ext F2 F' → RowAt F' (if c2 = j then A2 else A2.map (·.add (j * 4))) (rowS lnC ((S.drop j).map fdL)) := fun F' hE => by
      have := rowZ_cut lnC_len (by decide) j (S.length - j) c2 (hr2.mono hE) (by omega) (by rw [List.length_map]; omega)
      rwa [List.take_of_length_le (by rw [List.length_drop, List.length_map]; exact Nat.le_refl _), ← List.map_drop] at this
    have hln10 : (S.take j ++ (x.f, x.a) :: S.drop j).length = j + 1 + (S.length - j) := by
      rw [List.length_append, List.length_take, List.length_cons, List.length_drop, Nat.min_eq_left hnl]; omega
    have hrow10 : rowS lnC ((S.take j ++ (x.f, x.a) :: S.drop j).map fdL) = rowS lnC ((S.take j).map fdL) ++ (rowS lnC [fdL (x.f, x.a)] ++ rowS lnC ((S.drop j).map fdL)) := by
      rw [List.map_append, List.map_cons, rowZ_app, ← List.singleton_append, rowZ_app]
    refine short [0, 3, 4, 5] [.slice (some ad) l.length c, .slice A2 S.length c2, .int .i64 (i : Int), .int .i64 (j : Int)] rfl fun ρ => ?_
    ((conv => whnf); repeat (first | (apply load_at; (conv => lhs; whnf); (with_reducible assumption); rfl; (conv => whnf)) | (apply load_at; (conv => lhs; rw [add_plain, add_plain]); (with_reducible assumption); rfl; (conv => whnf)) | (apply loads_at; (conv => lhs; whnf); (with_reducible assumption); rfl; (conv => whnf)) | (refine ⟨⟨by omega, by omega⟩, ?_⟩; (conv => whnf))))
    refine draw_tree_at tab_ok (by kernel_rfl) [8, 13] (DT.row [0, 1, 2, 4, 5, 6, 7, 8, 9, 10, 11, 12, 13, 14, 17, 18, 19] (.fork (DT.row [3, 15, 16, 20, 21] .nil) (DT.row [15, 3, 16, 20, 21] .nil))) (by kernel_rfl) F hM.ext ?_
    ((conv => whnf); repeat (first | (apply load_at; (conv => lhs; whnf); (with_reducible assumption); rfl; (conv => whnf)) | (apply load_at; (conv => lhs; rw [add_plain, add_plain]); (with_reducible assumption); rfl; (conv => whnf)) | (apply loads_at; (conv => lhs; whnf); (with_reducible assumption); rfl; (conv => whnf)) | (refine ⟨⟨by omega, by omega⟩, ?_⟩; (conv => whnf))))
    refine load_step cxF ?_
    ((conv => whnf); repeat (first | (apply load_at; (conv => lhs; whnf); (with_reducible assumption); rfl; (conv => whnf)) | (apply load_at; (conv => lhs; rw [add_plain, add_plain]); (with_reducible assumption); rfl; (conv => whnf)) | (apply loads_at; (conv => lhs; whnf); (with_reducible assumption); rfl; (conv => whnf)) | (refine ⟨⟨by omega, by omega⟩, ?_⟩; (conv => whnf))))
    refine load_step caF ?_
    ((conv => whnf); repeat (first | (apply load_at; (conv => lhs; whnf); (with_reducible assumption); rfl; (conv => whnf)) | (apply load_at; (conv => lhs; rw [add_plain, add_plain]); (with_reducible assumption); rfl; (conv => whnf)) | (apply loads_at; (conv => lhs; whnf); (with_reducible assumption); rfl; (conv => whnf)) | (refine ⟨⟨by omega, by omega⟩, ?_⟩; (conv => whnf))))
    refine ⟨?_, ?_⟩
    · ((conv => whnf); repeat (first | (apply load_at; (conv => lhs; whnf); (with_reducible assumption); rfl; (conv => whnf)) | (apply load_at; (conv => lhs; rw [add_plain, add_plain]); (with_reducible assumption); rfl; (conv => whnf)) | (apply loads_at; (conv => lhs; whnf); (with_reducible assumption); rfl; (conv => whnf)) | (refine ⟨⟨by omega, by omega⟩, ?_⟩; (conv => whnf))))
      refine append_mine tab_ok rfl rfl ?hq rfl rfl ⟨_, rfl, fun k h => by cases h⟩ ⟨_, rfl, rfl⟩ (by decide) (Mine.nil F2 F2 _ _ (Ext.refl _)) (m := j) (ys := rowS lnC ((S.take j).map fdL)) (y := .slice (if c2 = 0 then A2 else A2.map (·.add (0 * 4))) j c2) ⟨by rw [rowS_len lnC_len, List.length_map, List.length_take, Nat.min_eq_left hnl], .inl ⟨_, _, rfl, hcut1 _ (Ext.refl _)⟩⟩ (lns_one _) (by show 2 * (0 + j) * 32 ≤ _; omega) fun s8 F8 hM8 _ => ?_
      case hq => rfl
      rw [Nat.zero_add, List.nil_append] at hM8
      have E8 := hM8.ext
      have hnew : ∀ {S' : Value} (k : Nat), blk S' = some k → (∀ b, blk S' = some b → F2 b = none) → F2 k = none := fun k hk h => h k hk
      (conv => whnf)
      refine ⟨hM.ext.trans E8, ?_⟩
      ((conv => whnf); repeat (first | (apply load_at; (conv => lhs; whnf); (with_reducible assumption); rfl; (conv => whnf)) | (apply load_at; (conv => lhs; rw [add_plain, add_plain]); (with_reducible assumption); rfl; (conv => whnf)) | (apply loads_at; (conv => lhs; whnf); (with_reducible assumption); rfl; (conv => whnf)) | (refine ⟨⟨by omega, by omega⟩, ?_⟩; (conv => whnf))))
      refine new_step (.cells (rowS lnC [fdL (x.f, x.a)]).toArray 27) rfl fun g h0_g => ?_
      have hE_g := Ext.new h0_g (.cells (rowS lnC [fdL (x.f, x.a)]).toArray 27)
      have hB_g := Heap.put_same F8 g (.cells (rowS lnC [fdL (x.f, x.a)]).toArray 27)
      generalize F8.put g _ = F9 at hE_g hB_g ⊢
      (conv => whnf)
      refine ⟨hM.ext.trans (E8.trans hE_g), ?_⟩
      ((conv => whnf); repeat (first | (apply load_at; (conv => lhs; whnf); (with_reducible assumption); rfl; (conv => whnf)) | (apply load_at; (conv => lhs; rw [add_plain, add_plain]); (with_reducible assumption); rfl; (conv => whnf)) | (apply loads_at; (conv => lhs; whnf); (with_reducible assumption); rfl; (conv => whnf)) | (refine ⟨⟨by omega, by omega⟩, ?_⟩; (conv => whnf))))
      refine append_mine tab_ok (m := 1) (ys := rowS lnC [fdL (x.f, x.a)]) (y := .slice (some ⟨g, 0, none⟩) 1 1) rfl rfl rfl rfl rfl ⟨_, rfl, fun k h => by cases h⟩ ⟨_, rfl, rfl⟩ (by decide) (hM8.mono hE_g) ⟨rfl, .inl ⟨_, _, rfl, row_blk hB_g⟩⟩ (lns_one _) (by show 2 * (j + 1) * 32 ≤ _; omega) fun s10 F10 hM10 _ => ?_
      have E10 := hM10.ext
      (conv => whnf)
      refine ⟨hM.ext.trans E10, ?_⟩
      ((conv => whnf); repeat (first | (apply load_at; (conv => lhs; whnf); (with_reducible assumption); rfl; (conv => whnf)) | (apply load_at; (conv => lhs; rw [add_plain, add_plain]); (with_reducible assumption); rfl; (conv => whnf)) | (apply loads_at; (conv => lhs; whnf); (with_reducible assumption); rfl; (conv => whnf)) | (refine ⟨⟨by omega, by omega⟩, ?_⟩; (conv => whnf))))
      refine append_mine tab_ok rfl rfl ?hq2 rfl rfl ⟨_, rfl, fun k h => by cases h⟩ ⟨_, rfl, rfl⟩ (by decide) hM10 (m := S.length - j) (ys := rowS lnC ((S.drop j).map fdL)) (y := .slice (if c2 = j then A2 else A2.map (·.add (j * 4))) (S.length - j) (c2 - j)) ⟨by rw [rowS_len lnC_len, List.length_map, List.length_drop], .inl ⟨_, _, rfl, hcut2 _ E10⟩⟩ (lns_one _) (by show 2 * (j + 1 + (S.length - j)) * 32 ≤ _; omega) fun s17 F17 hM17' _ => ?_
      case hq2 => rfl
      have E17 := hM17'.ext
      (conv => whnf)
      have hM17 : Mine F F17 s17 27 4 (addA S x.f x.a).length (rowS lnC ((addA S x.f x.a).map fdL)) := by
        rw [hadd, hln10, hrow10, ← List.append_assoc]
        exact ⟨hM17'.own, fun k hk => hM.ext.none (hnew k hk hM17'.fresh), hM.ext.trans E17⟩
      refine ⟨hM.ext.trans E17, ?_⟩
      ((conv => whnf); repeat (first | (apply load_at; (conv => lhs; whnf); (with_reducible assumption); rfl; (conv => whnf)) | (apply load_at; (conv => lhs; rw [add_plain, add_plain]); (with_reducible assumption); rfl; (conv => whnf)) | (apply loads_at; (conv => lhs; whnf); (with_reducible assumption); rfl; (conv => whnf)) | (refine ⟨⟨by omega, by omega⟩, ?_⟩; (conv => whnf))))
      refine ⟨k - 1, by omega, i + 1, s17, by omega, ?_, by rw [hst]; exact hM17⟩
      exact Eq.trans (b := [.slice (some ad) l.length c, s17, .int .i64 (IntKind.i64.wrap ((i : Int) + 1))]) rfl (by rw [hi1])
    · ((conv => whnf); repeat (first | (apply load_at; (conv => lhs; whnf); (with_reducible assumption); rfl; (conv => whnf)) | (apply load_at; (conv => lhs; rw [add_plain, add_plain]); (with_reducible assumption); rfl; (conv => whnf)) | (apply loads_at; (conv => lhs; whnf); (with_reducible assumption); rfl; (conv => whnf)) | (refine ⟨⟨by omega, by omega⟩, ?_⟩; (conv => whnf))))
      refine new_step (.cells (rowS lnC [fdL (x.f, x.a)]).toArray 27) rfl fun g h0_g => ?_
      have hE_g := Ext.new h0_g (.cells (rowS lnC [fdL (x.f, x.a)]).toArray 27)
      have hB_g := Heap.put_same F2 g (.cells (rowS lnC [fdL (x.f, x.a)]).toArray 27)
      generalize F2.put g _ = F9 at hE_g hB_g ⊢
      (conv => whnf)
      refine ⟨hM.ext.trans hE_g, ?_⟩
      ((conv => whnf); repeat (first | (apply load_at; (conv => lhs; whnf); (with_reducible assumption); rfl; (conv => whnf)) | (apply load_at; (conv => lhs; rw [add_plain, add_plain]); (with_reducible assumption); rfl; (conv => whnf)) | (apply loads_at; (conv => lhs; whnf); (with_reducible assumption); rfl; (conv => whnf)) | (refine ⟨⟨by omega, by omega⟩, ?_⟩; (conv => whnf))))
      refine append_mine tab_ok rfl rfl ?hq rfl rfl ⟨_, rfl, fun k h => by cases h⟩ ⟨_, rfl, rfl⟩ (by decide) (Mine.nil F9 F9 _ _ (Ext.refl _)) (m := j) (ys := rowS lnC ((S.take j).map fdL)) (y := .slice (if c2 = 0 then A2 else A2.map (·.add (0 * 4))) j c2) ⟨by rw [rowS_len lnC_len, List.length_map, List.length_take, Nat.min_eq_left hnl], .inl ⟨_, _, rfl, hcut1 _ hE_g⟩⟩ (lns_one _) (by show 2 * (0 + j) * 32 ≤ _; omega) fun s8 F8 hM8 _ => ?_
      case hq => rfl
      rw [Nat.zero_add, List.nil_append] at hM8
      have E8 := hM8.ext
      have hnew : ∀ {S' : Value} (k : Nat), blk S' = some k → (∀ b, blk S' = some b → F9 b = none) → F2 k = none := fun k hk h => hE_g.none (h k hk)
      have hB_g8 := E8 _ _ hB_g
      (conv => whnf)
      refine ⟨hM.ext.trans (hE_g.trans E8), ?_⟩
      ((conv => whnf); repeat (first | (apply load_at; (conv => lhs; whnf); (with_reducible assumption); rfl; (conv => whnf)) | (apply load_at; (conv => lhs; rw [add_plain, add_plain]); (with_reducible assumption); rfl; (conv => whnf)) | (apply loads_at; (conv => lhs; whnf); (with_reducible assumption); rfl; (conv => whnf)) | (refine ⟨⟨by omega, by omega⟩, ?_⟩; (conv => whnf))))
      refine append_mine tab_ok (m := 1) (ys := rowS lnC [fdL (x.f, x.a)]) (y := .slice (some ⟨g, 0, none⟩) 1 1) rfl rfl rfl rfl rfl ⟨_, rfl, fun k h => by cases h⟩ ⟨_, rfl, rfl⟩ (by decide) hM8 ⟨rfl, .inl ⟨_, _, rfl, row_blk hB_g8⟩⟩ (lns_one _) (by show 2 * (j + 1) * 32 ≤ _; omega) fun s10 F10 hM10 _ => ?_
      have E10 := hE_g.trans hM10.ext
      (conv => whnf)
      refine ⟨hM.ext.trans E10, ?_⟩
      ((conv => whnf); repeat (first | (apply load_at; (conv => lhs; whnf); (with_reducible assumption); rfl; (conv => whnf)) | (apply load_at; (conv => lhs; rw [add_plain, add_plain]); (with_reducible assumption); rfl; (conv => whnf)) | (apply loads_at; (conv => lhs; whnf); (with_reducible assumption); rfl; (conv => whnf)) | (refine ⟨⟨by omega, by omega⟩, ?_⟩; (conv => whnf))))
      refine append_mine tab_ok rfl rfl ?hq2 rfl rfl ⟨_, rfl, fun k h => by cases h⟩ ⟨_, rfl, rfl⟩ (by decide) hM10 (m := S.length - j) (ys := rowS lnC ((S.drop j).map fdL)) (y := .slice (if c2 = j then A2 else A2.map (·.add (j * 4))) (S.length - j) (c2 - j)) ⟨by rw [rowS_len lnC_len, List.length_map, List.length_drop], .inl ⟨_, _, rfl, hcut2 _ E10⟩⟩ (lns_one _) (by show 2 * (j + 1 + (S.length - j)) * 32 ≤ _; omega) fun s17 F17 hM17' _ => ?_
      case hq2 => rfl
      have E17 := hE_g.trans hM17'.ext
      (conv => whnf)
      have hM17 : Mine F F17 s17 27 4 (addA S x.f x.a).length (rowS lnC ((addA S x.f x.a).map fdL)) := by
        rw [hadd, hln10, hrow10, ← List.append_assoc]
        exact ⟨hM17'.own, fun k hk => hM.ext.none (hnew k hk hM17'.fresh), hM.ext.trans E17⟩
      refine ⟨hM.ext.trans E17, ?_⟩
      ((conv => whnf); repeat (first | (apply load_at; (conv => lhs; whnf); (with_reducible assumption); rfl; (conv => whnf)) | (apply load_at; (conv => lhs; rw [add_plain, add_plain]); (with_reducible assumption); rfl; (conv => whnf)) | (apply loads_at; (conv => lhs; whnf); (with_reducible assumption); rfl; (conv => whnf)) | (refine ⟨⟨by omega, by omega⟩, ?_⟩; (conv => whnf))))
      refine ⟨k - 1, by omega, i + 1, s17, by omega, ?_, by rw [hst]; exact hM17⟩
      exact Eq.trans (b := [.slice (some ad) l.length c, s17, .int .i64 (IntKind.i64.wrap ((i : Int) + 1))]) rfl (by rw [hi1])
end Go.Proofs.Ytpbpjmnnbmjmbaa.Al
/- Interfund lines: owed, Balance, and the reference's Balance. -/
namespace Go.Proofs.Ytpbpjmnnbmjmbaa.Al
open Go Go.Al Go.Proofs Go.RowKit
set_option maxHeartbeats 8000000
set_option maxRecDepth 100000
set_option linter.unusedVariables false
set_option linter.unusedSimpArgs false
def lnV (x : LnD) : Value := .agg (lnC x).toArray
def owedS (x : LnD) : List LnD := if 0 < x.a then [⟨x.f, 2900, 0, IntKind.i64.wrap (0 - x.a)⟩] else if x.a < 0 then [⟨x.f, 1900, 0, IntKind.i64.wrap (0 - x.a)⟩] else []
theorem owed_len (x : LnD) : (owedS x).length ≤ 1 := by
  unfold owedS
  split
  · exact Nat.le_refl _
  · split
    · exact Nat.le_refl _
    · exact Nat.zero_le _
def balS (l : List LnD) : List LnD := (fundsS l).flatMap owedS
theorem balS_len (l : List LnD) : (balS l).length ≤ (fundsS l).length := by
  unfold balS
  generalize fundsS l = m
  induction m with
  | nil => exact Nat.le_refl _
  | cons x m ih =>
    have := owed_len x
    rw [List.flatMap_cons, List.length_append, List.length_cons]
    omega
theorem funds_len (l : List LnD) : (fundsS l).length ≤ l.length := by
  unfold fundsS
  rw [List.length_map]
  have := sum_len l []
  simpa using this
theorem flat_succ {α β : Type} (f : α → List β) (xs : List α) {j : Nat} {x : α} (h : xs[j]? = some x) : (xs.take (j + 1)).flatMap f = (xs.take j).flatMap f ++ f x := by
  rw [List.take_add_one, h]
  simp
theorem own_mine {F : Heap} {b : Nat} {F' : Heap} {e : TypeId} (hE : Ext F F') (hf : F b = none) {l : List LnD} (hb : F' b = some (.cells (rowS lnC l).toArray e)) : Mine F F' (.slice (some ⟨b, 0, none⟩) l.length l.length) e 4 l.length (rowS lnC l) :=
  ⟨⟨rowS_len lnC_len l, .inr ⟨b, l.length, _, rfl, ⟨_, hb, .inl (Nat.le_refl 0)⟩, by rw [List.size_toArray, rowS_len lnC_len], Nat.le_refl _, by rw [List.toList_toArray, List.take_of_length_le (by rw [rowS_len lnC_len]; exact Nat.le_refl _)]⟩⟩, fun k hk => (by obtain rfl : b = k := Option.some.inj hk; exact hf), hE⟩
theorem owed (x : LnD) (F : Heap) : FnK Try.prog 15 #[lnV x] F (fun v F' => Mine F F' v 27 4 (owedS x).length (rowS lnC (owedS x))) := by
  have hdef : owedS x = if 0 < x.a then [⟨x.f, 2900, 0, IntKind.i64.wrap (0 - x.a)⟩] else if x.a < 0 then [⟨x.f, 1900, 0, IntKind.i64.wrap (0 - x.a)⟩] else [] := rfl
  generalize owedS x = os at hdef
  obtain ⟨f, o, n, a⟩ := x
  dsimp only at hdef
  (refine fn_walk tab_ok Try.func15 rfl rfl rfl rfl ?_; (conv => whnf))
  refine new_step (.cells #[.int .i64 f, .int .i64 o, .int .i64 n, .int .i64 a] 27) rfl fun b h0_b => ?_
  have hE_b := Ext.new h0_b (.cells #[.int .i64 f, .int .i64 o, .int .i64 n, .int .i64 a] 27)
  have hB_b := Heap.put_same F b (.cells #[.int .i64 f, .int .i64 o, .int .i64 n, .int .i64 a] 27)
  generalize F.put b _ = F1 at hE_b hB_b ⊢
  ((conv => whnf); repeat (first | (apply load_at; (conv => lhs; whnf); (with_reducible assumption); rfl; (conv => whnf)) | (apply load_at; (conv => lhs; rw [add_plain, add_plain]); (with_reducible assumption); rfl; (conv => whnf)) | (apply loads_at; (conv => lhs; whnf); (with_reducible assumption); rfl; (conv => whnf)) | (refine ⟨⟨by omega, by omega⟩, ?_⟩; (conv => whnf))))
  refine cond_split (fun h => ?_) (fun h => ?_)
  · have h := of_decide_eq_true (show decide (0 < a) = true from h)
    rw [if_pos h] at hdef
    subst hdef
    ((conv => whnf); repeat (first | (apply load_at; (conv => lhs; whnf); (with_reducible assumption); rfl; (conv => whnf)) | (apply load_at; (conv => lhs; rw [add_plain, add_plain]); (with_reducible assumption); rfl; (conv => whnf)) | (apply loads_at; (conv => lhs; whnf); (with_reducible assumption); rfl; (conv => whnf)) | (refine ⟨⟨by omega, by omega⟩, ?_⟩; (conv => whnf))))
    refine new_step (.cells (rowS lnC [⟨f, 2900, 0, IntKind.i64.wrap (0 - a)⟩]).toArray 27) rfl fun g h0_g => ?_
    have hE_g := Ext.new h0_g (.cells (rowS lnC [⟨f, 2900, 0, IntKind.i64.wrap (0 - a)⟩]).toArray 27)
    have hB_g := Heap.put_same F1 g (.cells (rowS lnC [⟨f, 2900, 0, IntKind.i64.wrap (0 - a)⟩]).toArray 27)
    generalize F1.put g _ = F2 at hE_g hB_g ⊢
    ((conv => whnf); repeat (first | (apply load_at; (conv => lhs; whnf); (with_reducible assumption); rfl; (conv => whnf)) | (apply load_at; (conv => lhs; rw [add_plain, add_plain]); (with_reducible assumption); rfl; (conv => whnf)) | (apply loads_at; (conv => lhs; whnf); (with_reducible assumption); rfl; (conv => whnf)) | (refine ⟨⟨by omega, by omega⟩, ?_⟩; (conv => whnf))))
    exact own_mine (hE_b.trans hE_g) (hE_b.none h0_g) (l := [⟨f, 2900, 0, IntKind.i64.wrap (0 - a)⟩]) hB_g
  · have h := of_decide_eq_false (show decide (0 < a) = false from h)
    rw [if_neg h] at hdef
    ((conv => whnf); repeat (first | (apply load_at; (conv => lhs; whnf); (with_reducible assumption); rfl; (conv => whnf)) | (apply load_at; (conv => lhs; rw [add_plain, add_plain]); (with_reducible assumption); rfl; (conv => whnf)) | (apply loads_at; (conv => lhs; whnf); (with_reducible assumption); rfl; (conv => whnf)) | (refine ⟨⟨by omega, by omega⟩, ?_⟩; (conv => whnf))))
    refine cond_split (fun h2 => ?_) (fun h2 => ?_)
    · have h2 := of_decide_eq_true (show decide (a < 0) = true from h2)
      rw [if_pos h2] at hdef
      subst hdef
      ((conv => whnf); repeat (first | (apply load_at; (conv => lhs; whnf); (with_reducible assumption); rfl; (conv => whnf)) | (apply load_at; (conv => lhs; rw [add_plain, add_plain]); (with_reducible assumption); rfl; (conv => whnf)) | (apply loads_at; (conv => lhs; whnf); (with_reducible assumption); rfl; (conv => whnf)) | (refine ⟨⟨by omega, by omega⟩, ?_⟩; (conv => whnf))))
      refine new_step (.cells (rowS lnC [⟨f, 1900, 0, IntKind.i64.wrap (0 - a)⟩]).toArray 27) rfl fun g h0_g => ?_
      have hE_g := Ext.new h0_g (.cells (rowS lnC [⟨f, 1900, 0, IntKind.i64.wrap (0 - a)⟩]).toArray 27)
      have hB_g := Heap.put_same F1 g (.cells (rowS lnC [⟨f, 1900, 0, IntKind.i64.wrap (0 - a)⟩]).toArray 27)
      generalize F1.put g _ = F2 at hE_g hB_g ⊢
      ((conv => whnf); repeat (first | (apply load_at; (conv => lhs; whnf); (with_reducible assumption); rfl; (conv => whnf)) | (apply load_at; (conv => lhs; rw [add_plain, add_plain]); (with_reducible assumption); rfl; (conv => whnf)) | (apply loads_at; (conv => lhs; whnf); (with_reducible assumption); rfl; (conv => whnf)) | (refine ⟨⟨by omega, by omega⟩, ?_⟩; (conv => whnf))))
      exact own_mine (hE_b.trans hE_g) (hE_b.none h0_g) (l := [⟨f, 1900, 0, IntKind.i64.wrap (0 - a)⟩]) hB_g
    · have h2 := of_decide_eq_false (show decide (a < 0) = false from h2)
      rw [if_neg h2] at hdef
      subst hdef
      ((conv => whnf); repeat (first | (apply load_at; (conv => lhs; whnf); (with_reducible assumption); rfl; (conv => whnf)) | (apply load_at; (conv => lhs; rw [add_plain, add_plain]); (with_reducible assumption); rfl; (conv => whnf)) | (apply loads_at; (conv => lhs; whnf); (with_reducible assumption); rfl; (conv => whnf)) | (refine ⟨⟨by omega, by omega⟩, ?_⟩; (conv => whnf))))
      exact Mine.nil _ _ _ _ hE_b
def IFunds : Prop := ∀ (l : List LnD) (A : Option Addr) (c : Nat) (F : Heap), RowAt F A (rowS lnC l) → l.length ≤ 1000 → (∀ x ∈ l, IntKind.i64.wrap x.a = x.a) →
    FnK Try.prog 14 #[.slice A l.length c] F (fun v F' => Mine F F' v 27 4 (fundsS l).length (rowS lnC (fundsS l)))
theorem balance (hfu : IFunds) (l : List LnD) (A : Option Addr) (c : Nat) (F : Heap) (hr : RowAt F A (rowS lnC l)) (hl : l.length ≤ 1000) (hwa : ∀ x ∈ l, IntKind.i64.wrap x.a = x.a) :
    FnK Try.prog 8 #[.slice A l.length c] F (fun v F' => Mine F F' v 27 4 (balS l).length (rowS lnC (balS l))) := by
  have hcall := hfu l A c F hr hl hwa
  have hfl := funds_len l
  have hbdef : balS l = (fundsS l).flatMap owedS := rfl
  generalize balS l = B at hbdef
  generalize fundsS l = m at hbdef hcall hfl
  have hstep := fun j x h => flat_succ owedS m (j := j) (x := x) h
  (refine fn_walk tab_ok Try.func8 rfl rfl rfl rfl ?_; (conv => whnf))
  refine call_of hcall ?_
  rintro v F1 hM
  obtain ⟨A2, c2, rfl, hc2, hr2⟩ := hM.own.row
  ((conv => whnf); repeat (first | (apply load_at; (conv => lhs; whnf); (with_reducible assumption); rfl; (conv => whnf)) | (apply load_at; (conv => lhs; rw [add_plain, add_plain]); (with_reducible assumption); rfl; (conv => whnf)) | (apply loads_at; (conv => lhs; whnf); (with_reducible assumption); rfl; (conv => whnf)) | (refine ⟨⟨by omega, by omega⟩, ?_⟩; (conv => whnf))))
  refine loop_slots [3, 7, 8, 9] (fun k vs F' => ∃ (j : Nat) (S : Value), j + k = m.length ∧ vs = [S, .slice A2 m.length c2, .int .i64 (m.length : Int), .int .i64 (j : Int)] ∧ ((m.take j).flatMap owedS).length ≤ j ∧ Mine F1 F' S 27 4 ((m.take j).flatMap owedS).length (rowS lnC ((m.take j).flatMap owedS))) m.length ⟨0, .slice none 0 0, by omega, rfl, Nat.le_refl _, Mine.nil _ _ _ _ (Ext.refl _)⟩ ?_
  rintro k vs F2 ρ ⟨j, S, hjk, rfl, hSl, hS⟩
  have hE := hS.ext
  ((conv => whnf); repeat (first | (apply load_at; (conv => lhs; whnf); (with_reducible assumption); rfl; (conv => whnf)) | (apply load_at; (conv => lhs; rw [add_plain, add_plain]); (with_reducible assumption); rfl; (conv => whnf)) | (apply loads_at; (conv => lhs; whnf); (with_reducible assumption); rfl; (conv => whnf)) | (refine ⟨⟨by omega, by omega⟩, ?_⟩; (conv => whnf))))
  refine cond_split (fun h => ?_) (fun h => ?_)
  · have hj : j < m.length := by have := of_decide_eq_true (show decide ((j : Int) < (m.length : Int)) = true from h); omega
    clear h
    have hx : m[j]? = some m[j] := List.getElem?_eq_getElem hj
    generalize m[j] = x at hx
    obtain ⟨ad, rfl⟩ := hr2.some (by rw [rowS_len lnC_len]; omega)
    have hL : ∀ K : Value → Prop, K (lnV x) → LoadsK F2 (ad.add (Int.toNat (j : Int) * 4)) 4 K := fun K hk => rowS_loads lnC_len (by decide) (hr2.mono hE) hx hk
    have hj1 : IntKind.i64.wrap ((j : Int) + 1) = ((j + 1 : Nat) : Int) := wrap_succ (j := j) (by omega)
    have hst := hstep j x hx
    have how := owed_len x
    have hoc := owed x
    generalize owedS x = os at hst how hoc
    generalize (m.take j).flatMap owedS = bs at hst hSl hS
    ((conv => whnf); repeat (first | (apply load_at; (conv => lhs; whnf); (with_reducible assumption); rfl; (conv => whnf)) | (apply load_at; (conv => lhs; rw [add_plain, add_plain]); (with_reducible assumption); rfl; (conv => whnf)) | (apply loads_at; (conv => lhs; whnf); (with_reducible assumption); rfl; (conv => whnf)) | (refine ⟨⟨by omega, by omega⟩, ?_⟩; (conv => whnf))))
    refine hL _ ?_
    ((conv => whnf); repeat (first | (apply load_at; (conv => lhs; whnf); (with_reducible assumption); rfl; (conv => whnf)) | (apply load_at; (conv => lhs; rw [add_plain, add_plain]); (with_reducible assumption); rfl; (conv => whnf)) | (apply loads_at; (conv => lhs; whnf); (with_reducible assumption); rfl; (conv => whnf)) | (refine ⟨⟨by omega, by omega⟩, ?_⟩; (conv => whnf))))
    refine new_step (.cells #[.int .i64 0, .int .i64 0, .int .i64 0, .int .i64 0] 27) rfl fun g h0_g => ?_
    have hU_g := Heap.put_same F2 g (.cells #[.int .i64 0, .int .i64 0, .int .i64 0, .int .i64 0] 27)
    have hX_g := fun o => (ext_put_put h0_g (o := .cells #[.int .i64 0, .int .i64 0, .int .i64 0, .int .i64 0] 27) (o' := o))
    generalize F2.put g (.cells #[.int .i64 0, .int .i64 0, .int .i64 0, .int .i64 0] 27) = F3 at hU_g hX_g ⊢
    (conv => whnf)
    refine store_step g 0 _ (#[.int .i64 x.f, .int .i64 x.o, .int .i64 x.n, .int .i64 x.a]) rfl hU_g rfl rfl (.inl (Nat.le_refl 0)) (ln_one x) ?_
    have hB_g := Heap.put_same F3 g (.cells #[.int .i64 x.f, .int .i64 x.o, .int .i64 x.n, .int .i64 x.a] 27)
    have hE_g := hX_g (.cells #[.int .i64 x.f, .int .i64 x.o, .int .i64 x.n, .int .i64 x.a] 27)
    clear hU_g hX_g
    generalize F3.put g _ = F3 at hB_g hE_g ⊢
    ((conv => whnf); repeat (first | (apply load_at; (conv => lhs; whnf); (with_reducible assumption); rfl; (conv => whnf)) | (apply load_at; (conv => lhs; rw [add_plain, add_plain]); (with_reducible assumption); rfl; (conv => whnf)) | (apply loads_at; (conv => lhs; whnf); (with_reducible assumption); rfl; (conv => whnf)) | (refine ⟨⟨by omega, by omega⟩, ?_⟩; (conv => whnf))))
    refine call_of (hoc F3) ?_
    rintro v F4 hO
    ((conv => whnf); repeat (first | (apply load_at; (conv => lhs; whnf); (with_reducible assumption); rfl; (conv => whnf)) | (apply load_at; (conv => lhs; rw [add_plain, add_plain]); (with_reducible assumption); rfl; (conv => whnf)) | (apply loads_at; (conv => lhs; whnf); (with_reducible assumption); rfl; (conv => whnf)) | (refine ⟨⟨by omega, by omega⟩, ?_⟩; (conv => whnf))))
    obtain ⟨A4, c4, rfl, hc4, hr4⟩ := hO.own.row
    refine append_mine tab_ok rfl rfl rfl rfl rfl ⟨_, rfl, fun k h => by cases h⟩ ⟨_, rfl, rfl⟩ (by decide) (hS.mono (hE_g.trans hO.ext)) (m := os.length) (ys := rowS lnC os) (y := .slice A4 os.length c4) ⟨by rw [rowS_len lnC_len], .inl ⟨_, _, rfl, hr4⟩⟩ (lns_one _) (by show 2 * (bs.length + os.length) * 32 ≤ _; omega) fun s5 F5 hM5 hK5 => ?_
    ((conv => whnf); repeat (first | (apply load_at; (conv => lhs; whnf); (with_reducible assumption); rfl; (conv => whnf)) | (apply load_at; (conv => lhs; rw [add_plain, add_plain]); (with_reducible assumption); rfl; (conv => whnf)) | (apply loads_at; (conv => lhs; whnf); (with_reducible assumption); rfl; (conv => whnf)) | (refine ⟨⟨by omega, by omega⟩, ?_⟩; (conv => whnf))))
    refine ⟨k - 1, by omega, j + 1, s5, by omega, ?_, ?_, ?_⟩
    · exact Eq.trans (b := [s5, .slice (some ad) m.length c2, .int .i64 (m.length : Int), .int .i64 (IntKind.i64.wrap ((j : Int) + 1))]) rfl (by rw [hj1])
    · rw [hst, List.length_append]; omega
    · rw [hst, List.length_append, rowZ_app]
      exact hM5
  · have hj : j = m.length := by have := of_decide_eq_false (show decide ((j : Int) < (m.length : Int)) = false from h); omega
    subst hj
    rw [List.take_length, ← hbdef] at hS
    ((conv => whnf); repeat (first | (apply load_at; (conv => lhs; whnf); (with_reducible assumption); rfl; (conv => whnf)) | (apply load_at; (conv => lhs; rw [add_plain, add_plain]); (with_reducible assumption); rfl; (conv => whnf)) | (apply loads_at; (conv => lhs; whnf); (with_reducible assumption); rfl; (conv => whnf)) | (refine ⟨⟨by omega, by omega⟩, ?_⟩; (conv => whnf))))
    exact hS.down hM.ext
end Go.Proofs.Ytpbpjmnnbmjmbaa.Al
/- Interfund lines: Funds: a map of sums, gone through in any order, sorted. -/
namespace Go.Proofs.Ytpbpjmnnbmjmbaa.Al
open Go Go.Al Go.Proofs Go.RowKit
set_option maxHeartbeats 8000000
set_option maxRecDepth 100000
set_option linter.unusedVariables false
set_option linter.unusedSimpArgs false
theorem findM_no : ∀ (l : ML) (k : Int) (i : Nat), findM l k i = none ↔ k ∉ l.map (·.1)
  | [], k, i => ⟨fun _ => List.not_mem_nil, fun _ => rfl⟩
  | p :: l, k, i => by
    rw [findM_cons, List.map_cons, List.mem_cons]
    by_cases e : k = p.1
    · rw [if_pos (by simpa using e)]
      exact ⟨(fun h => by cases h), fun h => absurd (.inl e) h⟩
    · rw [if_neg (by simpa using e), findM_no l k (i + 1)]
      exact ⟨fun h h2 => h2.elim e h, fun h h2 => h (.inr h2)⟩
theorem setM_nodup {l : ML} (h : (l.map (·.1)).Nodup) (k : Int) (v : Value) : ((setM l k v).map (·.1)).Nodup := by
  unfold setM
  cases hf : findM l k 0 with
  | none =>
    have := (findM_no l k 0).1 hf
    dsimp only
    rw [List.map_append, List.nodup_append]
    refine ⟨h, List.nodup_cons.2 ⟨List.not_mem_nil, List.nodup_nil⟩, fun a ha b hb e => ?_⟩
    have hb : b = k := List.mem_singleton.1 hb
    exact this (by rw [← hb, ← e]; exact ha)
  | some q =>
    obtain ⟨j, u⟩ := q
    obtain ⟨_, hj⟩ := findM_some l k 0 j u hf
    rw [Nat.sub_zero] at hj
    dsimp only
    have e : (l.set j (k, v)).map (·.1) = l.map (·.1) := by
      rw [List.map_set]
      apply List.ext_getElem?
      intro n
      rw [List.getElem?_set, List.getElem?_map]
      by_cases c : j = n
      · subst c
        rw [if_pos rfl, hj, List.length_map, if_pos (List.getElem?_eq_some_iff.1 hj).1]
        rfl
      · rw [if_neg c]
    rw [e]
    exact h
theorem nodup_sub : ∀ {a b : List Nat}, a.Nodup → (∀ x ∈ a, x ∈ b) → a.length ≤ b.length
  | [], b, _, _ => Nat.zero_le _
  | x :: a, b, h, hs => by
    rw [List.nodup_cons] at h
    have hx := hs x List.mem_cons_self
    have ih := nodup_sub (b := b.erase x) h.2 fun y hy => (List.mem_erase_of_ne (fun e => h.1 (by rw [← e]; exact hy))).2 (hs y (List.mem_cons_of_mem _ hy))
    rw [List.length_erase_of_mem hx] at ih
    have : 0 < b.length := List.length_pos_of_mem hx
    rw [List.length_cons]
    omega
theorem born_inj {es : List MapEntry} (h : (es.map (·.born)).Nodup) {a b : MapEntry} (ha : a ∈ es) (hb : b ∈ es) (e : a.born = b.born) : a = b := by
  have h1 := Go.Al.find_born h ha
  have h2 := Go.Al.find_born h hb
  rw [e, h2] at h1
  exact (Option.some.inj h1).symm
abbrev ivP (p : Int × Int) : Value × Value := (.int .i64 p.1, .int .i64 p.2)
/-- What a range over sums has met. -/
def SeenP (es : List MapEntry) (seen : List Nat) (ps : SumL) : Prop := ∃ vs : List MapEntry, vs.map (·.born) = seen ∧ vs.map (fun e => (e.key, e.val)) = ps.map ivP ∧ (∀ e ∈ vs, e ∈ es) ∧ seen.Nodup
theorem SeenP.nil (es : List MapEntry) : SeenP es [] [] := ⟨[], rfl, rfl, (fun e h => by cases h), List.nodup_nil⟩
theorem SeenP.len {es : List MapEntry} {seen : List Nat} {ps : SumL} (h : SeenP es seen ps) : ps.length ≤ es.length := by
  obtain ⟨vs, h1, h2, h3, h4⟩ := h
  have e1 := congrArg List.length h2
  rw [List.length_map, List.length_map] at e1
  have e2 := congrArg List.length h1
  rw [List.length_map] at e2
  have := nodup_sub (b := es.map (·.born)) h4 (by
    rw [← h1]
    intro x hx
    obtain ⟨e, he, rfl⟩ := List.mem_map.1 hx
    exact List.mem_map_of_mem (h3 e he))
  rw [List.length_map] at this
  omega
theorem SeenP.push {es : List MapEntry} {seen : List Nat} {ps : SumL} (h : SeenP es seen ps) {e : MapEntry} (he : e ∈ es) (hn : e.born ∉ seen) {p : Int × Int} (hk : (e.key, e.val) = ivP p) : SeenP es (seen ++ [e.born]) (ps ++ [p]) := by
  obtain ⟨vs, h1, h2, h3, h4⟩ := h
  refine ⟨vs ++ [e], by rw [List.map_append, h1]; rfl, by rw [List.map_append, List.map_append, h2, List.map_cons, List.map_cons, hk]; rfl, fun x hx => ?_, ?_⟩
  · rcases List.mem_append.1 hx with hx | hx
    · exact h3 x hx
    · rw [List.mem_singleton.1 hx]; exact he
  · rw [List.nodup_append]
    refine ⟨h4, List.nodup_cons.2 ⟨List.not_mem_nil, List.nodup_nil⟩, fun a ha b hb e2 => ?_⟩
    rw [List.mem_singleton] at hb
    exact hn (by rw [← hb, ← e2]; exact ha)
def unI : Value → Int
  | .int _ n => n
  | _ => 0
abbrev mvP (p : Int × Int) : Int × Value := (p.1, .int .i64 p.2)
theorem SeenP.all {es : List MapEntry} {seen : List Nat} {ps : SumL} {l : ML} (h : SeenP es seen ps) (hw : (es.map (·.born)).Nodup) (hl : mapL es l) (ha : ∀ e ∈ es, e.born ∈ seen) : (ps.map mvP).Perm l := by
  obtain ⟨vs, h1, h2, h3, h4⟩ := h
  have n1 : es.Nodup := List.Pairwise.of_map (·.born) (fun a b h e => h (congrArg _ e)) hw
  have n2 : vs.Nodup := List.Pairwise.of_map (·.born) (fun a b h e => h (congrArg _ e)) (by rw [h1]; exact h4 : (vs.map (·.born)).Nodup)
  have hp : vs.Perm es := (List.perm_ext_iff_of_nodup n2 n1).2 fun e => ⟨h3 e, fun he => by
    have := ha e he
    rw [← h1] at this
    obtain ⟨v, hv, e2⟩ := List.mem_map.1 this
    rw [← born_inj hw (h3 v hv) he e2]
    exact hv⟩
  have hl : es.map (fun e => (e.key, e.val)) = l.map (fun p => (Value.int .i64 p.1, p.2)) := hl
  have hp2 := (hp.map fun e => (e.key, e.val)).map fun q : Value × Value => (unI q.1, q.2)
  rw [h2, hl, List.map_map, List.map_map] at hp2
  have e1 : ps.map ((fun q : Value × Value => (unI q.1, q.2)) ∘ ivP) = ps.map mvP := rfl
  have e2 : l.map ((fun q : Value × Value => (unI q.1, q.2)) ∘ fun p => (Value.int .i64 p.1, p.2)) = l := by
    conv => rhs; rw [← List.map_id l]
    rfl
  rw [e1, e2] at hp2
  exact hp2
/-- A map that holds sums. -/
structure MapS (l : ML) (S : SumL) : Prop where
  at_ : ∀ k, getM l k = (lkA S k).map (.int .i64)
  nd : (l.map (·.1)).Nodup
theorem MapS.nil : MapS [] [] := ⟨fun _ => rfl, List.nodup_nil⟩
theorem MapS.add {l : ML} {S : SumL} (h : MapS l S) (hs : S.Pairwise fun x y => x.1 < y.1) {f n : Int} (hn : IntKind.i64.wrap n = n) {v : Value} (hv : v = match lkA S f with | some m => .int .i64 (IntKind.i64.wrap (m + n)) | none => .int .i64 (IntKind.i64.wrap (0 + n))) : MapS (setM l f v) (addA S f n) := by
  refine ⟨fun k => ?_, setM_nodup h.nd _ _⟩
  rw [getM_setM, lk_add S f n k hs, h.at_ k]
  by_cases e : k = f
  · rw [if_pos e, if_pos e, hv]
    cases lkA S f with
    | none => show some (Value.int .i64 (IntKind.i64.wrap (0 + n))) = some _; rw [Int.zero_add, hn]
    | some m => rfl
  · rw [if_neg e, if_neg e]
theorem getM_mem : ∀ {l : ML}, (l.map (·.1)).Nodup → ∀ (k : Int) (v : Value), getM l k = some v ↔ (k, v) ∈ l
  | [], _, k, v => ⟨(fun h => by cases h), (fun h => by cases h)⟩
  | p :: l, h, k, v => by
    rw [List.map_cons, List.nodup_cons] at h
    rw [getM_cons]
    by_cases e : k = p.1
    · rw [if_pos e]
      constructor
      · intro h2
        rw [e, ← Option.some.inj h2]
        exact List.mem_cons_self
      · intro h2
        rcases List.mem_cons.1 h2 with h2 | h2
        · rw [← h2]
        · exact absurd (by rw [← e]; exact List.mem_map_of_mem h2) h.1
    · rw [if_neg e, getM_mem h.2 k v]
      constructor
      · exact List.mem_cons_of_mem _
      · intro h2
        rcases List.mem_cons.1 h2 with h2 | h2
        · exact absurd (by rw [← h2]) e
        · exact h2
theorem lkA_mem : ∀ {S : SumL}, S.Pairwise (fun x y => x.1 < y.1) → ∀ (k v : Int), lkA S k = some v ↔ (k, v) ∈ S
  | [], _, k, v => ⟨(fun h => by cases h), (fun h => by cases h)⟩
  | p :: S, h, k, v => by
    obtain ⟨h1, h2⟩ := List.pairwise_cons.1 h
    show (if k = p.1 then some p.2 else lkA S k) = some v ↔ _
    by_cases e : k = p.1
    · rw [if_pos e]
      constructor
      · intro h3
        rw [e, ← Option.some.inj h3]
        exact List.mem_cons_self
      · intro h3
        rcases List.mem_cons.1 h3 with h3 | h3
        · rw [← h3]
        · have := h1 _ h3
          omega
    · rw [if_neg e, lkA_mem h2 k v]
      constructor
      · exact List.mem_cons_of_mem _
      · intro h3
        rcases List.mem_cons.1 h3 with h3 | h3
        · exact absurd (by rw [← h3]) e
        · exact h3
theorem MapS.val {l : ML} {S : SumL} (h : MapS l S) {k : Int} {v : Value} (hm : (k, v) ∈ l) : ∃ a, v = .int .i64 a := by
  have h1 := (getM_mem h.nd k v).2 hm
  rw [h.at_] at h1
  cases e : lkA S k with
  | none => rw [e] at h1; cases h1
  | some a => rw [e] at h1; exact ⟨a, (Option.some.inj h1).symm⟩
theorem MapS.perm {l : ML} {S : SumL} (h : MapS l S) (hs : S.Pairwise fun x y => x.1 < y.1) {ps : SumL} (hp : (ps.map mvP).Perm l) : ps.Perm S := by
  have n0 : (ps.map (·.1)).Nodup := by
    have := (hp.map (·.1)).nodup_iff.2 h.nd
    rwa [List.map_map] at this
  have n1 : ps.Nodup := List.Pairwise.of_map (·.1) (fun a b h e => h (congrArg _ e)) n0
  have n2 : S.Nodup := hs.imp fun h e => by rw [e] at h; omega
  refine (List.perm_ext_iff_of_nodup n1 n2).2 fun p => ?_
  have e1 : p ∈ ps ↔ (p.1, Value.int .i64 p.2) ∈ l := by
    rw [← hp.mem_iff]
    constructor
    · intro h2; exact List.mem_map_of_mem (f := mvP) h2
    · intro h2
      obtain ⟨q, hq, e⟩ := List.mem_map.1 h2
      have a1 := congrArg Prod.fst e
      have a2 := congrArg (fun z : Int × Value => unI z.2) e
      have : q = p := Prod.ext a1 a2
      rw [← this]; exact hq
  rw [e1, ← getM_mem h.nd, h.at_]
  constructor
  · intro h2
    have := (lkA_mem hs p.1 p.2).1 (by
      cases e : lkA S p.1 with
      | none => rw [e] at h2; cases h2
      | some a => rw [e] at h2; have := congrArg unI (Option.some.inj h2); exact congrArg some this)
    exact this
  · intro h2
    rw [(lkA_mem hs p.1 p.2).2 h2]
    rfl
theorem MapS.hit {l : ML} {S : SumL} (h : MapS l S) (k : Int) : hitV (.int .i64 0) (getM l k) = .int .i64 (match lkA S k with | some m => m | none => 0) := by
  rw [h.at_]
  cases lkA S k with
  | none => rfl
  | some m => rfl
theorem MapS.len {l : ML} {S : SumL} (h : MapS l S) (hs : S.Pairwise fun x y => x.1 < y.1) : l.length = S.length := by
  have e : (l.map fun p => (p.1, unI p.2)).map mvP = l := by
    rw [List.map_map]
    conv => rhs; rw [← List.map_id l]
    refine List.map_congr_left fun p hp => ?_
    obtain ⟨k, v⟩ := p
    obtain ⟨a, rfl⟩ := h.val hp
    rfl
  have := (h.perm hs (ps := l.map fun p => (p.1, unI p.2)) (by rw [e])).length_eq
  rwa [List.length_map] at this
theorem mapS_entry {es : List MapEntry} {l : ML} {S : SumL} (h : MapS l S) (hm : mapL es l) {e : MapEntry} (he : e ∈ es) : ∃ p : Int × Int, (e.key, e.val) = ivP p := by
  have h1 : (e.key, e.val) ∈ es.map (fun e => (e.key, e.val)) := List.mem_map_of_mem he
  have hm : es.map (fun e => (e.key, e.val)) = l.map (fun p => (Value.int .i64 p.1, p.2)) := hm
  rw [hm] at h1
  obtain ⟨⟨k, v⟩, h2, e2⟩ := List.mem_map.1 h1
  obtain ⟨a, rfl⟩ := h.val h2
  exact ⟨(k, a), e2.symm⟩
theorem funds : IFunds := by
  intro l A c F hr hl hwa
  have hfun : fundsS l = (sumS l []).map fdL := rfl
  rw [hfun, List.length_map]
  have hstep := fun i h => sum_take l [] i h
  have hsrt := fun i => sum_srt (l.take i) (S := []) List.Pairwise.nil
  have hend : sumS (l.take l.length) [] = sumS l [] := by rw [List.take_length]
  have hlen := sum_len l []
  have h0 : sumS (l.take 0) [] = [] := rfl
  (refine fn_walk tab_ok Try.func14 rfl rfl rfl rfl ?_; (conv => whnf))
  refine op_makeMap rfl fun m hm0 => ?_
  have hE0 := Ext.new hm0 (.map #[] 0)
  have hM0 : MapAtW (F.put m (.map #[] 0)) m [] := MapAtW.put ⟨#[], 0, rfl, rfl⟩ (WfM.nil 0)
  generalize F.put m _ = F1 at hE0 hM0 ⊢
  ((conv => whnf); repeat (first | (apply load_at; (conv => lhs; whnf); (with_reducible assumption); rfl; (conv => whnf)) | (apply load_at; (conv => lhs; rw [add_plain, add_plain]); (with_reducible assumption); rfl; (conv => whnf)) | (apply loads_at; (conv => lhs; whnf); (with_reducible assumption); rfl; (conv => whnf)) | (refine ⟨⟨by omega, by omega⟩, ?_⟩; (conv => whnf))))
  refine loop_slots [3, 10, 11, 12] (fun k vs F' => ∃ (i : Nat) (ml : ML), i + k = l.length ∧ vs = [.map (some m), .slice A l.length c, .int .i64 (l.length : Int), .int .i64 (i : Int)] ∧ Ext F F' ∧ MapAtW F' m ml ∧ MapS ml (sumS (l.take i) [])) l.length ⟨0, [], by omega, rfl, hE0, hM0, MapS.nil⟩ ?_
  rintro k vs F2 ρ ⟨i, ml, hik, rfl, hE, hMM, hMS⟩
  ((conv => whnf); repeat (first | (apply load_at; (conv => lhs; whnf); (with_reducible assumption); rfl; (conv => whnf)) | (apply load_at; (conv => lhs; rw [add_plain, add_plain]); (with_reducible assumption); rfl; (conv => whnf)) | (apply loads_at; (conv => lhs; whnf); (with_reducible assumption); rfl; (conv => whnf)) | (refine ⟨⟨by omega, by omega⟩, ?_⟩; (conv => whnf))))
  refine cond_split (fun h => ?_) (fun h => ?_)
  · have hi : i < l.length := by have := of_decide_eq_true (show decide ((i : Int) < (l.length : Int)) = true from h); omega
    clear h
    have hi1 : IntKind.i64.wrap ((i : Int) + 1) = ((i + 1 : Nat) : Int) := wrap_succ (j := i) (by omega)
    have hst := hstep i hi
    have hS := hsrt i
    have hx : l[i]? = some l[i] := List.getElem?_eq_getElem hi
    have hwx := hwa l[i] (List.getElem_mem hi)
    generalize sumS (l.take i) [] = S at hst hS hMS
    generalize l[i] = x at hst hx hwx
    obtain ⟨ad, rfl⟩ := hr.some (by rw [rowS_len lnC_len]; omega)
    have hL : ∀ K : Value → Prop, K (lnV x) → LoadsK F2 (ad.add (Int.toNat (i : Int) * 4)) 4 K := fun K hk => rowS_loads lnC_len (by decide) (hr.mono hE) hx hk
    have hadd := fun v hv => hMS.add hS (f := x.f) (n := x.a) hwx (v := v) hv
    have hhit := hMS.hit x.f
    ((conv => whnf); repeat (first | (apply load_at; (conv => lhs; whnf); (with_reducible assumption); rfl; (conv => whnf)) | (apply load_at; (conv => lhs; rw [add_plain, add_plain]); (with_reducible assumption); rfl; (conv => whnf)) | (apply loads_at; (conv => lhs; whnf); (with_reducible assumption); rfl; (conv => whnf)) | (refine ⟨⟨by omega, by omega⟩, ?_⟩; (conv => whnf))))
    refine hL _ ?_
    ((conv => whnf); repeat (first | (apply load_at; (conv => lhs; whnf); (with_reducible assumption); rfl; (conv => whnf)) | (apply load_at; (conv => lhs; rw [add_plain, add_plain]); (with_reducible assumption); rfl; (conv => whnf)) | (apply loads_at; (conv => lhs; whnf); (with_reducible assumption); rfl; (conv => whnf)) | (refine ⟨⟨by omega, by omega⟩, ?_⟩; (conv => whnf))))
    refine new_step (.cells #[.int .i64 0, .int .i64 0, .int .i64 0, .int .i64 0] 27) rfl fun g h0_g => ?_
    have hU_g := Heap.put_same F2 g (.cells #[.int .i64 0, .int .i64 0, .int .i64 0, .int .i64 0] 27)
    have hX_g := fun o => (ext_put_put h0_g (o := .cells #[.int .i64 0, .int .i64 0, .int .i64 0, .int .i64 0] 27) (o' := o))
    generalize F2.put g (.cells #[.int .i64 0, .int .i64 0, .int .i64 0, .int .i64 0] 27) = F3 at hU_g hX_g ⊢
    (conv => whnf)
    refine store_step g 0 _ (#[.int .i64 x.f, .int .i64 x.o, .int .i64 x.n, .int .i64 x.a]) rfl hU_g rfl rfl (.inl (Nat.le_refl 0)) (ln_one x) ?_
    have hB_g := Heap.put_same F3 g (.cells #[.int .i64 x.f, .int .i64 x.o, .int .i64 x.n, .int .i64 x.a] 27)
    have hE_g := hX_g (.cells #[.int .i64 x.f, .int .i64 x.o, .int .i64 x.n, .int .i64 x.a] 27)
    clear hU_g hX_g
    generalize F3.put g _ = F3 at hB_g hE_g ⊢
    ((conv => whnf); repeat (first | (apply load_at; (conv => lhs; whnf); (with_reducible assumption); rfl; (conv => whnf)) | (apply load_at; (conv => lhs; rw [add_plain, add_plain]); (with_reducible assumption); rfl; (conv => whnf)) | (apply loads_at; (conv => lhs; whnf); (with_reducible assumption); rfl; (conv => whnf)) | (refine ⟨⟨by omega, by omega⟩, ?_⟩; (conv => whnf))))
    refine op_lookup_at tab_ok rfl rfl rfl rfl rfl rfl rfl (hMM.mono hE_g).at_ rfl ?_
    rw [if_neg (by decide), hhit]
    ((conv => whnf); repeat (first | (apply load_at; (conv => lhs; whnf); (with_reducible assumption); rfl; (conv => whnf)) | (apply load_at; (conv => lhs; rw [add_plain, add_plain]); (with_reducible assumption); rfl; (conv => whnf)) | (apply loads_at; (conv => lhs; whnf); (with_reducible assumption); rfl; (conv => whnf)) | (refine ⟨⟨by omega, by omega⟩, ?_⟩; (conv => whnf))))
    refine op_mapUpdateW tab_ok rfl rfl rfl rfl rfl rfl (hMM.mono hE_g) fun o' h1 h2 => ?_
    have hE4 : Ext F (F3.put m o') := (hE.trans hE_g).put hm0 _
    have hM4 := MapAtW.put (F := F3) (m := m) h1 h2
    generalize F3.put m o' = F4 at hE4 hM4 ⊢
    ((conv => whnf); repeat (first | (apply load_at; (conv => lhs; whnf); (with_reducible assumption); rfl; (conv => whnf)) | (apply load_at; (conv => lhs; rw [add_plain, add_plain]); (with_reducible assumption); rfl; (conv => whnf)) | (apply loads_at; (conv => lhs; whnf); (with_reducible assumption); rfl; (conv => whnf)) | (refine ⟨⟨by omega, by omega⟩, ?_⟩; (conv => whnf))))
    refine ⟨k - 1, by omega, i + 1, _, by omega, ?_, hE4, hM4, ?_⟩
    · exact Eq.trans (b := [.map (some m), .slice (some ad) l.length c, .int .i64 (l.length : Int), .int .i64 (IntKind.i64.wrap ((i : Int) + 1))]) rfl (by rw [hi1])
    · rw [hst]
      refine hadd _ ?_
      cases lkA S x.f with
      | none => rfl
      | some q => rfl
  · have hi : i = l.length := by have := of_decide_eq_false (show decide ((i : Int) < (l.length : Int)) = false from h); omega
    subst hi
    have hsr := hsrt l.length
    rw [hend] at hMS hsr
    generalize sumS l [] = S at hMS hsr hlen
    clear h
    obtain ⟨es, cl, hm, hmL, hw⟩ := hMM.open
    ((conv => whnf); repeat (first | (apply load_at; (conv => lhs; whnf); (with_reducible assumption); rfl; (conv => whnf)) | (apply load_at; (conv => lhs; rw [add_plain, add_plain]); (with_reducible assumption); rfl; (conv => whnf)) | (apply loads_at; (conv => lhs; whnf); (with_reducible assumption); rfl; (conv => whnf)) | (refine ⟨⟨by omega, by omega⟩, ?_⟩; (conv => whnf))))
    refine op_range tab_ok rfl rfl rfl hm fun r hr0 => ?_
    have hE1 := Ext.new hr0 (.mapIter (some m) cl #[] cl)
    have hB1 := Heap.put_same F2 r (.mapIter (some m) cl #[] cl)
    generalize F2.put r _ = F3 at hE1 hB1 ⊢
    ((conv => whnf); repeat (first | (apply load_at; (conv => lhs; whnf); (with_reducible assumption); rfl; (conv => whnf)) | (apply load_at; (conv => lhs; rw [add_plain, add_plain]); (with_reducible assumption); rfl; (conv => whnf)) | (apply loads_at; (conv => lhs; whnf); (with_reducible assumption); rfl; (conv => whnf)) | (refine ⟨⟨by omega, by omega⟩, ?_⟩; (conv => whnf))))
    refine loop_slots [6, 25] (fun k vs F' => ∃ (T : Value) (seen : Array Nat) (ps : SumL), k + ps.length = es.toList.length ∧ vs = [T, .pointer (some ⟨r, 0, none⟩)] ∧ F' r = some (.mapIter (some m) cl seen cl) ∧ Mine F2 F' T 27 4 ps.length (rowS lnC (ps.map fdL)) ∧ blk T ≠ some r ∧ SeenP es.toList seen.toList ps) es.toList.length ⟨.slice none 0 0, #[], [], by simp, rfl, hB1, Mine.nil _ _ _ _ hE1, (by intro e; cases e), SeenP.nil _⟩ ?_
    rintro k vs F4 ρ ⟨T, seen, ps, hk, rfl, hR, hM, hne, hSe⟩
    have hm2 := hM.ext _ _ hm
    ((conv => whnf); repeat (first | (apply load_at; (conv => lhs; whnf); (with_reducible assumption); rfl; (conv => whnf)) | (apply load_at; (conv => lhs; rw [add_plain, add_plain]); (with_reducible assumption); rfl; (conv => whnf)) | (apply loads_at; (conv => lhs; whnf); (with_reducible assumption); rfl; (conv => whnf)) | (refine ⟨⟨by omega, by omega⟩, ?_⟩; (conv => whnf))))
    refine op_next rfl rfl hR hm2 hw.2 (fun hall => ?_) fun e he hn => ?_
    · have hp := hMS.perm hsr (hSe.all hw.1 hmL hall)
      have hpl := hp.length_eq
      have k5 := sortF (ps.map fdL) (S.map fdL) (by rw [List.length_map]; exact hM) (by rw [List.length_map, hpl]; simp at hlen; omega) (hp.map fdL) (List.pairwise_map.2 hsr)
      rw [List.length_map] at k5
      ((conv => whnf); repeat (first | (apply load_at; (conv => lhs; whnf); (with_reducible assumption); rfl; (conv => whnf)) | (apply load_at; (conv => lhs; rw [add_plain, add_plain]); (with_reducible assumption); rfl; (conv => whnf)) | (apply loads_at; (conv => lhs; whnf); (with_reducible assumption); rfl; (conv => whnf)) | (refine ⟨⟨by omega, by omega⟩, ?_⟩; (conv => whnf))))
      refine call_of k5 ?_
      rintro v F5 ⟨rfl, hM5, _⟩
      ((conv => whnf); repeat (first | (apply load_at; (conv => lhs; whnf); (with_reducible assumption); rfl; (conv => whnf)) | (apply load_at; (conv => lhs; rw [add_plain, add_plain]); (with_reducible assumption); rfl; (conv => whnf)) | (apply loads_at; (conv => lhs; whnf); (with_reducible assumption); rfl; (conv => whnf)) | (refine ⟨⟨by omega, by omega⟩, ?_⟩; (conv => whnf))))
      exact hM5.down hE
    · obtain ⟨p, hkk⟩ := mapS_entry hMS hmL he
      have hS2 := hSe.push he hn hkk
      have hsl := hS2.len
      rw [List.length_append, List.length_singleton] at hsl
      have hkey : e.key = .int .i64 p.1 := congrArg Prod.fst hkk
      have hval : e.val = .int .i64 p.2 := congrArg Prod.snd hkk
      have hlp : es.toList.length ≤ 1000000 := by
        have e1 := congrArg List.length hmL
        rw [List.length_map, List.length_map, hMS.len hsr] at e1
        simp at hlen
        omega
      have hR2 := Heap.put_same F4 r (.mapIter (some m) cl (seen.push e.born) cl)
      have hM2 : Mine F2 (F4.put r (.mapIter (some m) cl (seen.push e.born) cl)) T 27 4 ps.length (rowS lnC (ps.map fdL)) := ⟨hM.own.put hne, hM.fresh, hM.ext.put hr0 _⟩
      generalize F4.put r (.mapIter (some m) cl (seen.push e.born) cl) = F5 at hR2 hM2 ⊢
      have hm3 := hM2.ext _ _ hm
      rw [hkey, hval]
      ((conv => whnf); repeat (first | (apply load_at; (conv => lhs; whnf); (with_reducible assumption); rfl; (conv => whnf)) | (apply load_at; (conv => lhs; rw [add_plain, add_plain]); (with_reducible assumption); rfl; (conv => whnf)) | (apply loads_at; (conv => lhs; whnf); (with_reducible assumption); rfl; (conv => whnf)) | (refine ⟨⟨by omega, by omega⟩, ?_⟩; (conv => whnf))))
      refine op_entry rfl rfl hR2 hm3 hw he ?_
      rw [hkey, hval]
      ((conv => whnf); repeat (first | (apply load_at; (conv => lhs; whnf); (with_reducible assumption); rfl; (conv => whnf)) | (apply load_at; (conv => lhs; rw [add_plain, add_plain]); (with_reducible assumption); rfl; (conv => whnf)) | (apply loads_at; (conv => lhs; whnf); (with_reducible assumption); rfl; (conv => whnf)) | (refine ⟨⟨by omega, by omega⟩, ?_⟩; (conv => whnf))))
      refine new_step (.cells (rowS lnC [fdL p]).toArray 27) rfl fun g h0_g => ?_
      have hE_g := Ext.new h0_g (.cells (rowS lnC [fdL p]).toArray 27)
      have hB_g := Heap.put_same F5 g (.cells (rowS lnC [fdL p]).toArray 27)
      generalize F5.put g _ = F6 at hE_g hB_g ⊢
      have hM4 := hM2.mono hE_g
      have hrow := row_blk hB_g
      rw [List.toList_toArray] at hrow
      have hR4 := hE_g _ _ hR2
      ((conv => whnf); repeat (first | (apply load_at; (conv => lhs; whnf); (with_reducible assumption); rfl; (conv => whnf)) | (apply load_at; (conv => lhs; rw [add_plain, add_plain]); (with_reducible assumption); rfl; (conv => whnf)) | (apply loads_at; (conv => lhs; whnf); (with_reducible assumption); rfl; (conv => whnf)) | (refine ⟨⟨by omega, by omega⟩, ?_⟩; (conv => whnf))))
      refine append_own tab_ok (s := T) (n := ps.length) (xs := rowS lnC (ps.map fdL)) (m := 1) (ys := rowS lnC [fdL p]) (y := .slice (some ⟨g, 0, none⟩) 1 1) rfl rfl rfl rfl rfl ⟨_, rfl, fun k h => by cases h⟩ ⟨_, rfl, rfl⟩ (by decide) hM4.own ⟨rfl, .inl ⟨_, _, rfl, hrow⟩⟩ (lns_one _) (by show 2 * (ps.length + 1) * 32 ≤ _; omega) fun T2 F7 hO5 hk5 hf5 => ?_
      have hM5 : Mine F2 F7 T2 27 4 (ps ++ [p]).length (rowS lnC ((ps ++ [p]).map fdL)) := by
        rw [List.map_append, List.length_append, rowZ_app]
        refine ⟨hO5, fun c hc => ?_, hk5.ext hM4.ext hM4.fresh⟩
        rcases hf5 c hc with h | h
        · exact hM4.fresh c h
        · exact hM4.ext.none h
      have hR5 := hk5 _ _ hR4 hne
      have hne5 : blk T2 ≠ some r := fun e2 => by
        rcases hf5 r e2 with h | h
        · exact hne h
        · rw [hR4] at h; cases h
      ((conv => whnf); repeat (first | (apply load_at; (conv => lhs; whnf); (with_reducible assumption); rfl; (conv => whnf)) | (apply load_at; (conv => lhs; rw [add_plain, add_plain]); (with_reducible assumption); rfl; (conv => whnf)) | (apply loads_at; (conv => lhs; whnf); (with_reducible assumption); rfl; (conv => whnf)) | (refine ⟨⟨by omega, by omega⟩, ?_⟩; (conv => whnf))))
      refine ⟨k - 1, by omega, T2, seen.push e.born, ps ++ [p], by rw [List.length_append, List.length_singleton]; omega, rfl, hR5, hM5, hne5, by rw [Array.toList_push]; exact hS2⟩
end Go.Proofs.Ytpbpjmnnbmjmbaa.Al
/- The logic of a known part of memory, 17: rows of structs: an append of zeros that grows, a copy to a place of a row. -/
namespace Go.Al
open Go
theorem append_grow {P : Program} {T : Tab} (hT : TabOk P T) {o : Oper} {ev : Operand → Value} {F : Heap} {t u : TypeId} {p q : Operand} (ho : o.op = .call ⟨.builtin .append, #[p, q], #[t, u]⟩) {e : TypeId} {tsz tb : Nat} {tz : Option Value} {d : TD} {A : Option Addr} {n m c : Nat} {k : IntKind} {xs : List Value} {K : Value → Heap → Prop}
    (hp : ev p = .slice A n c) (hq : ev q = .int .i64 m) (ht : T t = some ⟨tsz, tb, .slice e, tz⟩) (he : T e = some d) (hu : ∃ du, T u = some du ∧ du.desc = .int k) (hz : ∃ zv, d.zero = some zv ∧ zv.cells.size = d.size) (hb0 : 0 < d.bytes)
    (hrow : RowAt F A xs) (hlxs : xs.length = n * d.size) (hcn : c < n + m) (hm0 : 0 < m) (hd0 : 0 < d.size) (hlim : 2 * (n + m) * d.bytes ≤ 281474976710656)
    (hk : ∀ b nc cs, F b = none → n + m ≤ nc → cs.size = nc * d.size → cs.toList.take (n * d.size) = xs → K (.slice (some ⟨b, 0, none⟩) (n + m) nc) (F.put b (.cells cs e))) : OpK P o ev F K := by
  obtain ⟨hut, _⟩ := hT _ _ ht
  obtain ⟨_, i, hi, hsz, hby, hze⟩ := hT _ _ he
  obtain ⟨du, hdu, hk'⟩ := hu
  obtain ⟨huu, _⟩ := hT _ _ hdu
  obtain ⟨zv, hzv, hzs⟩ := hz
  have hm : n + m ≤ 281474976710656 := by
    have := Nat.le_mul_of_pos_right (2 * (n + m)) hb0
    omega
  refine ⟨opW_v (s := Builtin.append_ #[t, u] o.type #[.slice A n c, .int .i64 m]) (by simp [execOp, ho, resolve, invoke, builtin, hp, hq]) ?_⟩
  unfold Builtin.append_
  simp only [List.getElem?_toArray, List.getElem?_cons_zero, List.getElem?_cons_succ]
  rw [wk_bind, wk_underlying hut]
  dsimp only
  rw [wk_bind, wk_sizeOf hi, hsz, wk_bind]
  rw [wk_underlying huu, wk_bind, wk_pure, hk']
  dsimp only
  have hw : IntKind.i64.wrap (m : Int) = m := by rw [IntKind.wrap_i64]; omega
  have hmb : ¬ ((m : Int) * (d.bytes : Int) > 2 ^ 48) := by
    have : m * d.bytes ≤ 281474976710656 := Nat.le_trans (Nat.mul_le_mul_right _ (by omega)) hlim
    have : ((m * d.bytes : Nat) : Int) ≤ ((281474976710656 : Nat) : Int) := Int.ofNat_le.2 this
    rw [Int.natCast_mul] at this
    omega
  simp only [if_true, asInt, asIntOf, wk_bind, wk_pure, hw]
  rw [if_neg (by omega)]
  simp only [wk_bind, wk_typeInfo hi, hby]
  rw [if_neg hmb]
  simp only [wk_bind, wk_pure, Int.toNat_natCast, Bool.not_true, Bool.false_eq_true, if_false]
  have app : ∀ (L : Array Value → Heap → Prop), L (Builtin.zeroCells zv.cells m) F → wk P (if m * d.size = 0 then pure #[] else do pure (Builtin.zeroCells (← zeroValue e).cells m) : Sem (Array Value)) F L := by
    intro L hL
    rw [if_neg (by have := Nat.mul_pos hm0 hd0; omega), wk_bind, wk_zeroValue hi (hze.trans hzv), wk_pure]
    exact hL
  rw [if_neg (by omega : ¬ n + m ≤ c)]
  have hcap := nextslicecap_le (need := n + m) (old := c) (by omega)
  rw [wk_bind, wk_typeInfo hi]
  rw [if_neg (by rw [hby]; simp [IntKind.max, IntKind.signed, IntKind.bits]; omega)]
  rw [wk_bind, wk_typeInfo hi]
  rw [if_neg (by rw [hby]; have := Nat.mul_le_mul_right d.bytes hcap; omega)]
  rw [wk_bind]
  refine wk_choose fun nc _ hch => ?_
  obtain ⟨tt, rfl⟩ := hch rfl
  have hge : n + m ≤ Question.cut (.appendCap (n + m) c e) tt := by show n + m ≤ n + m + _; omega
  generalize Question.cut (.appendCap (n + m) c e) tt = nc at hge
  rw [wk_bind, wk_typeInfo hi, wk_bind, wk_askRoom, wk_bind]
  refine wk_firstCells hrow hlxs _ ?_
  rw [wk_bind]
  refine app _ ?_
  rw [wk_bind, wk_zeroValue hi (hze.trans hzv)]
  simp only [newRow, wk_bind, wk_pure]
  refine run_new ⟨fun b hb => ?_⟩
  refine hk b nc _ hb hge ?_ ?_
  · simp only [Array.size_append, List.size_toArray, zeroCells_size, hzs, hlxs]
    rw [← Nat.add_mul, ← Nat.add_mul]
    congr 1
    omega
  · rw [Array.toList_append, Array.toList_append, List.toList_toArray, List.append_assoc]
    exact List.take_left' hlxs
end Go.Al
/- Interfund lines: the library's Equal, Grow, Concat of lines; All, twice. -/
namespace Go.Proofs.Ytpbpjmnnbmjmbaa.Al
open Go Go.Al Go.Proofs Go.RowKit
set_option maxHeartbeats 8000000
set_option maxRecDepth 100000
set_option linter.unusedVariables false
set_option linter.unusedSimpArgs false
def lnEq (w v : LnD) : Bool := w.f == v.f && (w.o == v.o && (w.n == v.n && (w.a == v.a && true)))
theorem lnEq_iff (w v : LnD) : lnEq w v = true ↔ w = v := by
  obtain ⟨a, b, c, d⟩ := w
  obtain ⟨a', b', c', d'⟩ := v
  unfold lnEq
  simp only [Bool.and_eq_true, beq_iff_eq, and_true, LnD.mk.injEq]
theorem run_line (w v : LnD) (W : World) : (Op.equalIn 10000 27 (.agg #[.int .i64 w.f, .int .i64 w.o, .int .i64 w.n, .int .i64 w.a]) (.agg #[.int .i64 v.f, .int .i64 v.o, .int .i64 v.n, .int .i64 v.a])).run Try.prog W = .ok (lnEq w v) W := by
  rw [run_struct_check W 27 _ _ .i64 4 (by kernel_rfl) (by kernel_rfl) (by kernel_rfl) (fun j hj => ?_)]
  · rfl
  · have h : j = 0 ∨ j = 1 ∨ j = 2 ∨ j = 3 := by omega
    rcases h with rfl | rfl | rfl | rfl <;> exact ⟨_, _, rfl, rfl⟩
theorem slicesEqualL (x y : List LnD) (A B : Option Addr) (c e : Nat) (F : Heap) (hx : RowAt F A (rowS lnC x)) (hy : RowAt F B (rowS lnC y)) (hl : x.length ≤ 100000) (hl' : y.length ≤ 100000) :
    FnK Try.prog 7 #[.slice A x.length c, .slice B y.length e] F (fun v F' => (∃ z : Bool, v = .bool z ∧ (z = true ↔ x = y)) ∧ F' = F) := by
  (refine fn_walk tab_ok Try.func7 rfl rfl rfl rfl ?_; (conv => whnf))
  refine cond_split (fun h => ?_) (fun h => ?_)
  · have hne : x.length ≠ y.length := by
      replace h : ((x.length : Int) != (y.length : Int)) = true := h
      intro e
      rw [e] at h
      simp at h
    (conv => whnf)
    exact ⟨⟨false, rfl, by simp; rintro rfl; exact hne rfl⟩, rfl⟩
  · have heq : x.length = y.length := by
      replace h : ((x.length : Int) != (y.length : Int)) = false := h
      have := bne_eq_false_iff_eq.1 h
      omega
    (conv => whnf)
    refine loop_slots [0, 1, 12, 13] (fun k vs F' => ∃ j : Nat, j + k = x.length ∧ vs = [.slice A x.length c, .slice B y.length e, .int .i64 (x.length : Int), .int .i64 (j : Int)] ∧ x.take j = y.take j ∧ F' = F) x.length ⟨0, by omega, rfl, rfl, rfl⟩ ?_
    rintro k vs F2 ρ ⟨j, hjk, rfl, htk, rfl⟩
    (conv => whnf)
    refine cond_split (fun h => ?_) (fun h => ?_)
    · have hj : j < x.length := by have := of_decide_eq_true h; omega
      obtain ⟨ad, rfl⟩ := hx.some (by rw [rowS_len lnC_len]; omega)
      obtain ⟨bd, rfl⟩ := hy.some (by rw [rowS_len lnC_len]; omega)
      have hxj : x[j]? = some x[j] := List.getElem?_eq_getElem hj
      have hyj : y[j]? = some (y[j]'(by omega)) := List.getElem?_eq_getElem (by omega)
      have hL1 : ∀ K : Value → Prop, K (lnV x[j]) → LoadsK F2 (ad.add (Int.toNat (j : Int) * 4)) 4 K := fun K hk => rowS_loads lnC_len (by decide) hx hxj hk
      have hL2 : ∀ K : Value → Prop, K (lnV (y[j]'(by omega))) → LoadsK F2 (bd.add (Int.toNat (j : Int) * 4)) 4 K := fun K hk => rowS_loads lnC_len (by decide) hy hyj hk
      have hrl := run_line x[j] (y[j]'(by omega))
      have hiff := lnEq_iff x[j] (y[j]'(by omega))
      generalize x[j] = w at hxj hL1 hrl hiff
      generalize y[j]'(by omega) = v at hyj hL2 hrl hiff
      generalize lnEq w v = z at hrl hiff
      (conv => whnf)
      refine draw_tree tab_ok (by kernel_rfl) [] (DT.row [0, 1, 2, 3, 4, 5, 6, 7, 8] .nil) (by kernel_rfl) ?_
      (conv => whnf)
      refine ⟨⟨by omega, by omega⟩, ?_⟩
      (conv => whnf)
      refine hL1 _ ?_
      (conv => whnf)
      refine ⟨⟨by omega, by omega⟩, ?_⟩
      (conv => whnf)
      refine hL2 _ ?_
      (conv => whnf)
      refine op_neq z rfl rfl rfl (by kernel_rfl) hrl ?_
      refine ⟨Ext.refl _, ?_⟩
      cases z with
      | false =>
        (conv => whnf)
        refine ⟨⟨false, rfl, by simp; rintro rfl; rw [hxj] at hyj; have := hiff.2 (Option.some.inj hyj); cases this⟩, rfl⟩
      | true =>
        have hwv := hiff.1 rfl
        (conv => whnf)
        refine ⟨k - 1, by omega, j + 1, by omega, ?_, ?_, rfl⟩
        · have hw : IntKind.i64.wrap ((j : Int) + 1) = ((j + 1 : Nat) : Int) := by rw [IntKind.wrap_i64]; omega
          rw [← hw]
          rfl
        · rw [List.take_add_one, List.take_add_one, hxj, hyj, htk, hwv]
    · have hj : j = x.length := by have := of_decide_eq_false h; omega
      subst hj
      have hxy : x = y := by
        rw [List.take_length] at htk
        rw [htk, heq, List.take_length]
      (conv => whnf)
      exact ⟨⟨true, rfl, by simp [hxy]⟩, rfl⟩
theorem growLn (n : Nat) (hn : n ≤ 1000000) (F : Heap) : FnK Try.prog 23 #[.slice none 0 0, .int .i64 (n : Int)] F (fun v F' => Mine F F' v 27 4 0 []) := by
  have hw : IntKind.i64.wrap ((n : Int) - IntKind.i64.wrap (((0 : Nat) : Int) - ((0 : Nat) : Int))) = (n : Int) := by
    rw [show IntKind.i64.wrap (((0 : Nat) : Int) - ((0 : Nat) : Int)) = 0 by decide, IntKind.wrap_i64]
    omega
  (refine fn_walk tab_ok Try.func23 rfl rfl rfl rfl ?_; (conv => whnf))
  generalize IntKind.i64.wrap ((n : Int) - IntKind.i64.wrap (((0 : Nat) : Int) - ((0 : Nat) : Int))) = m at hw
  subst hw
  have hnil : Mine F F (.slice none 0 0) 27 4 0 [] := Mine.nil _ _ _ _ (Ext.refl F)
  refine cond_split (fun h => ?_) (fun h => ?_)
  · have h0 := of_decide_eq_true h
    (conv => whnf)
    refine ⟨⟨by decide, by decide⟩, ?_⟩
    (conv => whnf)
    refine append_grow tab_ok (e := 27) (A := none) (n := 0) (c := 0) (m := n) (k := .i64) (xs := []) rfl rfl rfl rfl rfl ⟨_, rfl, rfl⟩ ⟨_, rfl, rfl⟩ (by decide) (RowAt.nil _ _) rfl (by omega) (by omega) (by decide) (by show 2 * (0 + n) * 32 ≤ _; omega) fun b nc cs hb hle hcs htk => ?_
    obtain ⟨c1, rfl⟩ : ∃ c1, nc = c1 + 1 := ⟨nc - 1, by omega⟩
    have hE := Ext.new hb (.cells cs 27)
    have hB := Heap.put_same F b (.cells cs 27)
    generalize F.put b _ = F1 at hE hB ⊢
    (conv => whnf)
    refine ⟨⟨by decide, by omega⟩, ?_⟩
    (conv => whnf)
    exact ⟨⟨rfl, .inr ⟨b, c1 + 1, cs, rfl, ⟨_, hB, .inl (Nat.le_refl 0)⟩, hcs, Nat.zero_le _, by simp⟩⟩, fun b' hb' => (by obtain rfl : b = b' := Option.some.inj hb'; exact hb), hE⟩
  · (conv => whnf)
    exact hnil
/-- A row of rows of lines. -/
abbrev BP := List LnD × Option Addr × Nat
def catV (p : BP) : Value := .slice p.2.1 p.1.length p.2.2
def flat (ps : List BP) : List LnD := ps.flatMap (·.1)
theorem flat_take {ps : List BP} {j : Nat} {p : BP} (h : ps[j]? = some p) : flat (ps.take (j + 1)) = flat (ps.take j) ++ p.1 := by
  unfold flat
  rw [List.take_add_one, h]
  simp
theorem flat_le (ps : List BP) (j : Nat) : (flat (ps.take j)).length ≤ (flat ps).length := by
  unfold flat
  conv => rhs; rw [← List.take_append_drop j ps]
  rw [List.flatMap_append, List.length_append]
  exact Nat.le_add_right _ _
theorem concat (ps : List BP) (A : Option Addr) (c : Nat) (F : Heap) (hr : RowAt F A (ps.map catV)) (hp : ∀ p ∈ ps, RowAt F p.2.1 (rowS lnC p.1)) (hl : ps.length ≤ 1000) (hs : (flat ps).length ≤ 900000) :
    FnK Try.prog 17 #[.slice A ps.length c] F (fun v F' => Mine F F' v 27 4 (flat ps).length (rowS lnC (flat ps))) := by
  (refine fn_walk tab_ok Try.func17 rfl rfl rfl rfl ?_; (conv => whnf))
  refine loop_slots [0, 3, 9, 10, 11] (fun k vs F' => ∃ j : Nat, j + k = ps.length ∧ vs = [.slice A ps.length c, .int .i64 ((flat (ps.take j)).length : Int), .slice A ps.length c, .int .i64 (ps.length : Int), .int .i64 (j : Int)] ∧ F' = F) ps.length ⟨0, by omega, rfl, rfl⟩ ?_
  rintro k vs F2 ρ ⟨j, hjk, rfl, rfl⟩
  (conv => whnf)
  refine cond_split (fun h => ?_) (fun h => ?_)
  · have hj : j < ps.length := by have := of_decide_eq_true h; omega
    obtain ⟨ad, rfl⟩ := hr.some (by simp; omega)
    have hx : ps[j]? = some ps[j] := List.getElem?_eq_getElem hj
    have hft := flat_take hx
    have hfl := flat_le ps (j + 1)
    have hc : (ps.map catV)[j]? = some (.slice ps[j].2.1 ps[j].1.length ps[j].2.2) := by rw [List.getElem?_map, hx]; rfl
    generalize ps[j] = p at hft hc
    obtain ⟨x, B, cc⟩ := p
    dsimp only at hft hc
    rw [hft, List.length_append] at hfl
    have hw : IntKind.i64.wrap (((flat (ps.take j)).length : Int) + (x.length : Int)) = (((flat (ps.take (j + 1))).length : Nat) : Int) := by
      rw [hft, List.length_append, IntKind.wrap_i64]
      omega
    (conv => whnf)
    refine ⟨⟨by omega, by omega⟩, ?_⟩
    (conv => whnf)
    refine load_step (v := .slice B x.length cc) ?_ ?_
    · show F2.cell? (ad.add (Int.toNat (j : Int) * 1)) = _
      rw [Int.toNat_natCast, Nat.mul_one]
      exact hr.cell hc
    generalize hsz : ((flat (ps.take j)).length : Int) = sz at hw
    (conv => whnf)
    refine cond_split (fun h => ?_) (fun h => ?_)
    · have h : decide (IntKind.i64.wrap (sz + (x.length : Int)) < 0) = true := h
      rw [hw] at h
      have := of_decide_eq_true h
      omega
    · (conv => whnf)
      refine ⟨k - 1, by omega, j + 1, by omega, ?_, rfl⟩
      have hw2 : IntKind.i64.wrap ((j : Int) + 1) = ((j + 1 : Nat) : Int) := by rw [IntKind.wrap_i64]; omega
      rw [← hw2, ← hw]
      rfl
  · have hj : j = ps.length := by have := of_decide_eq_false h; omega
    subst hj
    rw [List.take_length]
    (conv => whnf)
    refine call_of (growLn (flat ps).length (by omega) F2) ?_
    rintro v F3 hm
    (conv => whnf)
    refine loop_slots [6, 25, 26, 27] (fun k vs F' => ∃ (j : Nat) (S : Value), j + k = ps.length ∧ vs = [S, .slice A ps.length c, .int .i64 (ps.length : Int), .int .i64 (j : Int)] ∧ Mine F2 F' S 27 4 (flat (ps.take j)).length (rowS lnC (flat (ps.take j)))) ps.length ⟨0, v, by omega, rfl, hm⟩ ?_
    rintro k vs F4 ρ ⟨j, S, hjk, rfl, hm4⟩
    (conv => whnf)
    refine cond_split (fun h => ?_) (fun h => ?_)
    · have hj : j < ps.length := by have := of_decide_eq_true h; omega
      obtain ⟨ad, rfl⟩ := hr.some (by simp; omega)
      have hx : ps[j]? = some ps[j] := List.getElem?_eq_getElem hj
      have hft := flat_take hx
      have hfl := flat_le ps (j + 1)
      have hc : (ps.map catV)[j]? = some (.slice ps[j].2.1 ps[j].1.length ps[j].2.2) := by rw [List.getElem?_map, hx]; rfl
      have hrp := hp ps[j] (List.getElem_mem hj)
      generalize ps[j] = p at hft hc hrp
      obtain ⟨x, B, cc⟩ := p
      dsimp only at hft hc hrp
      rw [hft, List.length_append] at hfl
      (conv => whnf)
      refine ⟨⟨by omega, by omega⟩, ?_⟩
      (conv => whnf)
      refine load_step (v := .slice B x.length cc) ?_ ?_
      · show F4.cell? (ad.add (Int.toNat (j : Int) * 1)) = _
        rw [Int.toNat_natCast, Nat.mul_one]
        exact (hr.mono hm4.ext).cell hc
      (conv => whnf)
      refine append_mine tab_ok rfl rfl rfl rfl rfl ⟨_, rfl, fun k h => by cases h⟩ ⟨_, rfl, rfl⟩ (by decide) hm4 (m := x.length) (ys := rowS lnC x) (y := .slice B x.length cc) ⟨rowS_len lnC_len _, .inl ⟨_, _, rfl, hrp.mono hm4.ext⟩⟩ (lns_one x) (by show 2 * ((flat (ps.take j)).length + x.length) * 32 ≤ _; omega) fun s' F5 h1 h2 => ?_
      (conv => whnf)
      refine ⟨k - 1, by omega, j + 1, s', by omega, ?_, ?_⟩
      · have hw2 : IntKind.i64.wrap ((j : Int) + 1) = ((j + 1 : Nat) : Int) := by rw [IntKind.wrap_i64]; omega
        rw [← hw2]
        rfl
      · rw [hft, List.length_append, rowZ_app]
        exact h1
    · have hj : j = ps.length := by have := of_decide_eq_false h; omega
      subst hj
      rw [List.take_length] at hm4
      (conv => whnf)
      exact hm4
end Go.Proofs.Ytpbpjmnnbmjmbaa.Al
/- Interfund lines: All, twice; few lines; the law's own example. -/
namespace Go.Proofs.Ytpbpjmnnbmjmbaa.Al
open Go Go.Al Go.Proofs Go.RowKit
set_option maxHeartbeats 8000000
set_option maxRecDepth 100000
set_option linter.unusedVariables false
set_option linter.unusedSimpArgs false
def allS (l : List LnD) : List LnD := l ++ balS l
theorem allS_len (l : List LnD) : (allS l).length ≤ 2 * l.length := by
  have h1 := balS_len l
  have h2 := funds_len l
  unfold allS
  rw [List.length_append]
  omega
theorem all (l : List LnD) (A : Option Addr) (c : Nat) (F : Heap) (hr : RowAt F A (rowS lnC l)) (hl : l.length ≤ 1000) (hwa : ∀ x ∈ l, IntKind.i64.wrap x.a = x.a) :
    FnK Try.prog 10 #[.slice A l.length c] F (fun v F' => Mine F F' v 27 4 (allS l).length (rowS lnC (allS l))) := by
  have hcall := balance funds l A c F hr hl hwa
  have hbl := balS_len l
  have hfl := funds_len l
  have hdef : allS l = l ++ balS l := rfl
  generalize allS l = al at hdef
  generalize balS l = b at hcall hbl hdef
  subst hdef
  (refine fn_walk tab_ok Try.func10 rfl rfl rfl rfl ?_; (conv => whnf))
  refine call_of hcall ?_
  rintro v F1 hM
  obtain ⟨A2, c2, rfl, hc2, hr2⟩ := hM.own.row
  ((conv => whnf); repeat (first | (apply load_at; (conv => lhs; whnf); (with_reducible assumption); rfl; (conv => whnf)) | (apply load_at; (conv => lhs; rw [add_plain, add_plain]); (with_reducible assumption); rfl; (conv => whnf)) | (apply loads_at; (conv => lhs; whnf); (with_reducible assumption); rfl; (conv => whnf)) | (refine ⟨⟨by omega, by omega⟩, ?_⟩; (conv => whnf))))
  refine new_step (.cells #[.slice A l.length c, .slice A2 b.length c2] 22) rfl fun g h0_g => ?_
  have hE_g := Ext.new h0_g (.cells #[.slice A l.length c, .slice A2 b.length c2] 22)
  have hB_g := Heap.put_same F1 g (.cells #[.slice A l.length c, .slice A2 b.length c2] 22)
  generalize F1.put g _ = F2 at hE_g hB_g ⊢
  ((conv => whnf); repeat (first | (apply load_at; (conv => lhs; whnf); (with_reducible assumption); rfl; (conv => whnf)) | (apply load_at; (conv => lhs; rw [add_plain, add_plain]); (with_reducible assumption); rfl; (conv => whnf)) | (apply loads_at; (conv => lhs; whnf); (with_reducible assumption); rfl; (conv => whnf)) | (refine ⟨⟨by omega, by omega⟩, ?_⟩; (conv => whnf))))
  have hrow := row_blk hB_g
  rw [List.toList_toArray] at hrow
  have hfl2 : flat [(l, A, c), (b, A2, c2)] = l ++ b := by simp [flat]
  have k := concat [(l, A, c), (b, A2, c2)] (some ⟨g, 0, none⟩) 2 F2 hrow (fun p hp => by
    rcases List.mem_cons.1 hp with rfl | hp
    · exact hr.mono (hM.ext.trans hE_g)
    · rw [List.mem_singleton.1 hp]; exact hr2.mono hE_g) (by show 2 ≤ 1000; omega) (by rw [hfl2, List.length_append]; omega)
  rw [hfl2] at k
  refine call_of k ?_
  rintro v F3 hM3
  ((conv => whnf); repeat (first | (apply load_at; (conv => lhs; whnf); (with_reducible assumption); rfl; (conv => whnf)) | (apply load_at; (conv => lhs; rw [add_plain, add_plain]); (with_reducible assumption); rfl; (conv => whnf)) | (apply loads_at; (conv => lhs; whnf); (with_reducible assumption); rfl; (conv => whnf)) | (refine ⟨⟨by omega, by omega⟩, ?_⟩; (conv => whnf))))
  exact hM3.down (hM.ext.trans hE_g)
theorem fewL (A : Option Addr) (n c : Nat) (F : Heap) : FnK Try.prog 5 #[.slice A n c] F (fun v F' => v = .bool (decide ((n : Int) ≤ 30)) ∧ F' = F) := by
  (refine fn_walk tab_ok Try.func5 rfl rfl rfl rfl ?_; (conv => whnf))
  exact ⟨rfl, rfl⟩
theorem eqLn {x y : List LnD} {A B : Option Addr} {c e : Nat} {F : Heap} (hx : RowAt F A (rowS lnC x)) (hy : RowAt F B (rowS lnC y)) (h : x = y) (hl : x.length ≤ 100000) : FnK Try.prog 7 #[.slice A x.length c, .slice B y.length e] F (fun v F' => v = .bool true ∧ F' = F) :=
  (slicesEqualL x y A B c e F hx hy hl (by rw [← h]; exact hl)).mono fun v F' ⟨⟨z, hv, hz⟩, hF⟩ => ⟨by rw [hv, hz.2 h], hF⟩
end Go.Proofs.Ytpbpjmnnbmjmbaa.Al
/- Interfund lines: the law's own example. -/
namespace Go.Proofs.Ytpbpjmnnbmjmbaa.Al
open Go Go.Al Go.Proofs Go.RowKit
set_option maxHeartbeats 8000000
set_option maxRecDepth 100000
set_option linter.unusedVariables false
set_option linter.unusedSimpArgs false
theorem hb1 : fundsS [⟨100, 5010, 0, 5⟩, ⟨200, 1010, 0, -5⟩] = [⟨100, 0, 0, 5⟩, ⟨200, 0, 0, -5⟩] := by kernel_rfl
theorem hb2 : owedS ⟨100, 0, 0, 5⟩ = [⟨100, 2900, 0, -5⟩] := by kernel_rfl
theorem hb3 : owedS ⟨200, 0, 0, -5⟩ = [⟨200, 1900, 0, 5⟩] := by kernel_rfl
theorem hb4 : balS [⟨100, 5010, 0, 5⟩, ⟨200, 1010, 0, -5⟩] = [⟨100, 2900, 0, -5⟩, ⟨200, 1900, 0, 5⟩] := by
  unfold balS
  rw [hb1, List.flatMap_cons, List.flatMap_cons, hb2, hb3]
  rfl
theorem hb5 : ∀ x ∈ ([⟨100, 5010, 0, 5⟩, ⟨200, 1010, 0, -5⟩] : List LnD), IntKind.i64.wrap x.a = x.a := by
  intro x hx
  rcases List.mem_cons.1 hx with rfl | hx
  · show IntKind.i64.wrap 5 = 5; decide
  · rw [List.mem_singleton.1 hx]; show IntKind.i64.wrap (-5) = -5; decide
theorem hb6 (A : Option Addr) (c : Nat) (F : Heap) (hr : RowAt F A (rowS lnC [⟨100, 5010, 0, 5⟩, ⟨200, 1010, 0, -5⟩])) : FnK Try.prog 8 #[.slice A 2 c] F (fun v F' => Mine F F' v 27 4 2 (rowS lnC [⟨100, 2900, 0, -5⟩, ⟨200, 1900, 0, 5⟩])) := by
  have h := balance funds [⟨100, 5010, 0, 5⟩, ⟨200, 1010, 0, -5⟩] A c F hr (by decide) hb5
  rw [hb4] at h
  exact h
theorem hb7 (A B : Option Addr) (c e : Nat) (F : Heap) (hx : RowAt F A (rowS lnC [⟨100, 2900, 0, -5⟩, ⟨200, 1900, 0, 5⟩])) (hy : RowAt F B (rowS lnC [⟨100, 2900, 0, -5⟩, ⟨200, 1900, 0, 5⟩])) : FnK Try.prog 7 #[.slice A 2 c, .slice B 2 e] F (fun v F' => v = .bool true ∧ F' = F) :=
  eqLn (x := [⟨100, 2900, 0, -5⟩, ⟨200, 1900, 0, 5⟩]) (y := [⟨100, 2900, 0, -5⟩, ⟨200, 1900, 0, 5⟩]) hx hy rfl (by decide)
theorem awake24 (F : Heap) : FnK Try.prog 6 #[] F (fun v F' => v = .bool true ∧ Ext F F') := by
  have kb := hb6
  (refine fn_walk tab_ok Try.func6 rfl rfl rfl rfl ?_; (conv => whnf))
  refine new_step (.cells (rowS lnC [⟨100, 5010, 0, 5⟩, ⟨200, 1010, 0, -5⟩]).toArray 27) rfl fun g h0_g => ?_
  have hE_g := Ext.new h0_g (.cells (rowS lnC [⟨100, 5010, 0, 5⟩, ⟨200, 1010, 0, -5⟩]).toArray 27)
  have hB_g := Heap.put_same F g (.cells (rowS lnC [⟨100, 5010, 0, 5⟩, ⟨200, 1010, 0, -5⟩]).toArray 27)
  generalize F.put g _ = F1 at hE_g hB_g ⊢
  ((conv => whnf); repeat (first | (apply load_at; (conv => lhs; whnf); (with_reducible assumption); rfl; (conv => whnf)) | (apply load_at; (conv => lhs; rw [add_plain, add_plain]); (with_reducible assumption); rfl; (conv => whnf)) | (apply loads_at; (conv => lhs; whnf); (with_reducible assumption); rfl; (conv => whnf)) | (refine ⟨⟨by omega, by omega⟩, ?_⟩; (conv => whnf))))
  have hrow := row_blk hB_g
  rw [List.toList_toArray] at hrow
  refine call_of (kb (some ⟨g, 0, none⟩) 2 F1 hrow) ?_
  rintro v F2 hM
  obtain ⟨A2, c2, rfl, hc2, hr2⟩ := hM.own.row
  ((conv => whnf); repeat (first | (apply load_at; (conv => lhs; whnf); (with_reducible assumption); rfl; (conv => whnf)) | (apply load_at; (conv => lhs; rw [add_plain, add_plain]); (with_reducible assumption); rfl; (conv => whnf)) | (apply loads_at; (conv => lhs; whnf); (with_reducible assumption); rfl; (conv => whnf)) | (refine ⟨⟨by omega, by omega⟩, ?_⟩; (conv => whnf))))
  refine new_step (.cells (rowS lnC [⟨100, 2900, 0, -5⟩, ⟨200, 1900, 0, 5⟩]).toArray 27) rfl fun k h0_k => ?_
  have hE_k := Ext.new h0_k (.cells (rowS lnC [⟨100, 2900, 0, -5⟩, ⟨200, 1900, 0, 5⟩]).toArray 27)
  have hB_k := Heap.put_same F2 k (.cells (rowS lnC [⟨100, 2900, 0, -5⟩, ⟨200, 1900, 0, 5⟩]).toArray 27)
  generalize F2.put k _ = F3 at hE_k hB_k ⊢
  ((conv => whnf); repeat (first | (apply load_at; (conv => lhs; whnf); (with_reducible assumption); rfl; (conv => whnf)) | (apply load_at; (conv => lhs; rw [add_plain, add_plain]); (with_reducible assumption); rfl; (conv => whnf)) | (apply loads_at; (conv => lhs; whnf); (with_reducible assumption); rfl; (conv => whnf)) | (refine ⟨⟨by omega, by omega⟩, ?_⟩; (conv => whnf))))
  have hrow3 := row_blk hB_k
  rw [List.toList_toArray] at hrow3
  have ke := hb7 A2 (some ⟨k, 0, none⟩) c2 2 F3 (hr2.mono hE_k) hrow3
  refine call_of ke ?_
  rintro v F4 ⟨rfl, rfl⟩
  ((conv => whnf); repeat (first | (apply load_at; (conv => lhs; whnf); (with_reducible assumption); rfl; (conv => whnf)) | (apply load_at; (conv => lhs; rw [add_plain, add_plain]); (with_reducible assumption); rfl; (conv => whnf)) | (apply loads_at; (conv => lhs; whnf); (with_reducible assumption); rfl; (conv => whnf)) | (refine ⟨⟨by omega, by omega⟩, ?_⟩; (conv => whnf))))
  exact ⟨rfl, hE_g.trans (hM.ext.trans hE_k)⟩
end Go.Proofs.Ytpbpjmnnbmjmbaa.Al

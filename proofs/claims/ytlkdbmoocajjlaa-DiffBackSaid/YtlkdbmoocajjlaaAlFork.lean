/- The logic of a known part of memory, 7b: a region that draws its order, told as a tree: where movers stand in no row, the tree parts. It holds for every program that follows mixed orders. -/
import Derived.Test.YtlkdbmoocajjlaaAlDraw
namespace Go.Al
open Go

/-- The orders in which a region is told. -/
inductive DT
  | nil
  | cons (i : Nat) (t : DT)
  | fork (l r : DT)
def DT.row : List Nat → DT → DT
  | [], t => t
  | i :: l, t => .cons i (DT.row l t)
def isPl (T : Tab) (op : Op) : Bool := !convB T op && (isVal op || (match op with | .build _ _ => true | _ => false))
def isSt (T : Tab) (op : Op) : Bool := isPl T op || (!convB T op && (match op with | .load _ _ => true | _ => false))
def stAt (T : Tab) (ops : Array Oper) (i : Nat) : Bool := match ops[i]? with | some o => isSt T o.op | none => false
def findH (M : List Nat) (i : Nat) : DT → Bool
  | .nil => false
  | .cons h _ => Nat.beq h i || bit M i h
  | .fork l r => findH M i l || findH M i r
def findT (T : Tab) (ops : Array Oper) (M : List Nat) (i : Nat) : DT → Bool
  | .nil => false
  | .cons h t => Nat.beq h i || bit M i h || (stAt T ops h && findT T ops M i t)
  | .fork l r => findH M i l || findH M i r
def nodeOk (T : Tab) (ops : Array Oper) (M : List Nat) (done : List Nat) (t : DT) : Bool := (List.range ops.size).all fun i => done.contains i || findT T ops M i t
def chkT (T : Tab) (ops : Array Oper) (M : List Nat) (lo done : List Nat) (i : Nat) : Bool :=
    (match ops[i]? with
    | none => false
    | some o =>
      (o.after.toList.all fun e => !Region.binds .any e || done.contains e.on) &&
      (!lo.contains i || isSt T o.op) &&
      ((List.range ops.size).all fun k => Nat.beq k i || (match ops[k]? with
        | some p => (match p.dst with
          | some t => (!(readsOf ops o).contains t || bit M i k || bit M k i) && (match o.dst with | some d => !Nat.beq d t | none => true)
          | none => true)
        | none => true)) &&
      (match o.op with | .select _ _ => false | _ => true)) &&
    !done.contains i
def checkT (T : Tab) (ops : Array Oper) (M : List Nat) (lo : List Nat) : DT → Bool → List Nat → Bool
  | .nil, _, done => (List.range ops.size).all fun i => done.contains i
  | .cons i t, b, done => (!b || nodeOk T ops M done (.cons i t)) && chkT T ops M lo done i && checkT T ops M lo t true (i :: done)
  | .fork l r, b, done => (!b || nodeOk T ops M done (.fork l r)) && checkT T ops M lo l false done && checkT T ops M lo r false done
def soloT (T : Tab) (ops : Array Oper) (M : List Nat) (lo done : List Nat) (i : Nat) : Bool := done.all fun j => (match ops[j]? with | some p => isPl T p.op || !isSt T p.op | none => true) || lo.contains j || bit M i j
/-- With a mark in lo (a number beyond the region): nothing is told by G any more behind this mover. -/
def offT (ops : Array Oper) (M : List Nat) (lo done : List Nat) (i : Nat) : Bool := (lo.any fun j => Nat.ble ops.size j) && lo.all fun j => Nat.ble ops.size j || (done.contains j && bit M i j)
def nextT (T : Tab) (ops : Array Oper) (M : List Nat) (lo : List Nat) (G : Heap) (i : Nat) (o : Oper) (ih : List Nat → Env → Heap → Prop) (done : List Nat) (env : Env) (F : Heap) (v : Value) (F' : Heap) : Prop :=
  bif isSt T o.op then ih (i :: done) (env.set o.dst v) F else (bif offT ops M lo done i then (bif soloT T ops M lo done i then ih (i :: done) (env.set o.dst v) F' else (Ext F F' ∧ ih (i :: done) (env.set o.dst v) F')) else (Ext G F' ∧ bif soloT T ops M lo done i then ih (i :: done) (env.set o.dst v) F' else (Ext F F' ∧ ih (i :: done) (env.set o.dst v) F')))
def stepBase (P : Program) (T : Tab) (lo : List Nat) (G : Heap) (i : Nat) (o : Oper) (ev : Operand → Value) (F : Heap) (K : Value → Heap → Prop) : Prop := bif lo.contains i then stepB P T o ev G K else stepB P T o ev F K
def baseT (lo : List Nat) (G : Heap) (i : Nat) (F : Heap) : Heap := bif lo.contains i then G else F
def treeStep (P : Program) (T : Tab) (ops : Array Oper) (M : List Nat) (lo : List Nat) (G : Heap) (i : Nat) (ih : List Nat → Env → Heap → Prop) (done : List Nat) (env : Env) (F : Heap) : Prop :=
    match ops[i]? with
    | none => False
    | some o =>
      match o.guard with
      | none => stepBase P T lo G i o env.ev F (nextT T ops M lo G i o ih done env F)
      | some (j, want) => match yieldedE ops env j with
        | some b => CondK (match want with | true => b | false => !b)
            (stepBase P T lo G i o (guardE ops j want env).ev F (nextT T ops M lo G i o ih done (guardE ops j want env) F))
            (ih (i :: done) ((guardE ops j (!want) env).set o.dst undef) F)
        | none => ih (i :: done) (env.set o.dst undef) F
def treeGo (P : Program) (T : Tab) (ops : Array Oper) (M : List Nat) (lo : List Nat) (G : Heap) (K : Env → Heap → Prop) (t : DT) : List Nat → Env → Heap → Prop :=
  DT.rec (motive := fun _ => List Nat → Env → Heap → Prop) (fun _ => K) (fun i _ ih => treeStep P T ops M lo G i ih) (fun _ _ l r done env F => l done env F ∧ r done env F) t
theorem treeGo_eq {P : Program} {T : Tab} {ops : Array Oper} {M lo : List Nat} {G : Heap} {K : Env → Heap → Prop} {done : List Nat} {t : DT} {i : Nat} {env : Env} {F : Heap} : treeGo P T ops M lo G K (.cons i t) done env F = treeStep P T ops M lo G i (treeGo P T ops M lo G K t) done env F := rfl

theorem buildK_val {T : Tab} {t : TypeId} {parts : List (Nat × Value)} {K : Value → Prop} (h : buildK T t parts K) : ∃ v, K v ∧ ∀ K' : Value → Prop, K' v → buildK T t parts K' := by
  revert h
  unfold buildK
  cases T t with
  | none => exact fun h => h.elim
  | some d =>
    dsimp only
    cases zcells d with
    | none => exact fun h => h.elim
    | some z =>
      dsimp only
      cases d.desc with
      | struct fs =>
        dsimp only
        cases allT T fs.toList with
        | false => exact fun h => h.elim
        | true =>
          rw [cond_true]
          cases fillL (placesK T fs.toList) z parts with
          | none => exact fun h => h.elim
          | some cs => exact fun h => ⟨_, h, fun K' h => h⟩
      | array n e =>
        dsimp only
        cases hasT T e with
        | false => exact fun h => h.elim
        | true =>
          rw [cond_true]
          cases fillL (fun i => some (i * sizeK T e, sizeK T e)) z parts with
          | none => exact fun h => h.elim
          | some cs => exact fun h => ⟨_, h, fun K' h => h⟩
      | _ => exact fun h => h.elim
/-- What moves nothing. -/
theorem step_st {P : Program} {T : Tab} (hT : TabOk P T) {o : Oper} (hs : isSt T o.op = true) {ev : Operand → Value} {F : Heap} {K : Value → Heap → Prop} (h : stepB P T o ev F K) :
    ∃ v, K v F ∧ (∀ F', Ext F F' → opW P o ev F' (fun u F'' => u = v ∧ F'' = F')) ∧ (isPl T o.op = true → ∀ F', opW P o ev F' (fun u F'' => u = v ∧ F'' = F')) := by
  have hcv : convB T o.op = false := by
    cases e : convB T o.op with
    | false => rfl
    | true => unfold isSt isPl at hs; rw [e] at hs; cases hs
  have h : stepK P T o ev F K := by unfold stepB at h; rw [hcv, cond_false] at h; exact h
  have hs : ((isVal o.op || (match o.op with | .build _ _ => true | _ => false)) || (match o.op with | .load _ _ => true | _ => false)) = true := by
    unfold isSt isPl at hs; rw [hcv, Bool.not_false, Bool.true_and, Bool.true_and] at hs; exact hs
  cases hp : isStill o.op with
  | true =>
    obtain ⟨v, h1, h2, h3⟩ := step_still hT hp h
    refine ⟨v, h1, h2, fun e => h3 ?_⟩
    cases hv : isVal o.op with
    | true => rfl
    | false =>
      unfold isPl at e
      rw [hcv, Bool.not_false, Bool.true_and, hv, Bool.false_or] at e
      have hp : (isVal o.op || (match o.op with | .load _ _ => true | _ => false)) = true := hp
      rw [hv, Bool.false_or] at hp
      split at e
      · next ho => rw [ho] at hp; cases hp
      · cases e
  | false =>
    obtain ⟨hv, hl⟩ := Bool.or_eq_false_iff.1 (show (isVal o.op || _) = false from hp)
    simp only [Bool.or_eq_true] at hs
    have hs := hs.elim (fun h => h.elim (fun h => (by rw [hv] at h; cases h)) id) (fun h => by split at h <;> first | (cases h; done) | (rename_i ho; rw [ho] at hl; cases hl))
    split at hs
    · next t parts ho =>
      unfold stepK at h
      rw [hv, cond_false] at h
      unfold memK at h
      rw [ho] at h
      dsimp only at h
      obtain ⟨v, hk, hb⟩ := buildK_val h
      have key : ∀ F', opW P o ev F' (fun u F'' => u = v ∧ F'' = F') := fun F' => by
        refine opW_v (s := Instr.build t (parts.map fun (i, x) => (i, ev x))) (by simp only [execOp, ho]) ?_
        have hl : (parts.map fun (i, x) => (i, ev x)).toList = parts.toList.map fun p => (p.1, ev p.2) := by simp
        exact buildK_sound (K := fun u F'' => u = v ∧ F'' = F') hT (by rw [hl]; exact hb _ ⟨rfl, rfl⟩)
      exact ⟨v, hk, fun F' _ => key F', fun _ F' => key F'⟩
    · cases hs

theorem treeGo_cons {P : Program} {T : Tab} (hT : TabOk P T) {ops : Array Oper} {M lo : List Nat} {G : Heap} {K : Env → Heap → Prop} {done : List Nat} {t : DT} {i : Nat} {o : Oper} {E : Env} {F : Heap} (ho : ops[i]? = some o) (hlo : lo.contains i = true → isSt T o.op = true) (h : treeGo P T ops M lo G K (.cons i t) done E F) :
    (wantedE ops E o = false ∧ treeGo P T ops M lo G K t (i :: done) (E.set o.dst undef) F) ∨
    (wantedE ops E o = true ∧ isSt T o.op = true ∧ ∃ x, (∀ F', Ext (baseT lo G i F) F' → opW P o E.ev F' (fun u F'' => u = x ∧ F'' = F')) ∧ (isPl T o.op = true → ∀ F', opW P o E.ev F' (fun u F'' => u = x ∧ F'' = F')) ∧ treeGo P T ops M lo G K t (i :: done) (E.set o.dst x) F) ∨
    (wantedE ops E o = true ∧ isSt T o.op = false ∧ opW P o E.ev F (fun x F' => (offT ops M lo done i = true ∨ Ext G F') ∧ (soloT T ops M lo done i = true ∨ Ext F F') ∧ treeGo P T ops M lo G K t (i :: done) (E.set o.dst x) F')) := by
  have run : ∀ (_ : wantedE ops E o = true), stepBase P T lo G i o E.ev F (nextT T ops M lo G i o (treeGo P T ops M lo G K t) done E F) →
      (wantedE ops E o = true ∧ isSt T o.op = true ∧ ∃ x, (∀ F', Ext (baseT lo G i F) F' → opW P o E.ev F' (fun u F'' => u = x ∧ F'' = F')) ∧ (isPl T o.op = true → ∀ F', opW P o E.ev F' (fun u F'' => u = x ∧ F'' = F')) ∧ treeGo P T ops M lo G K t (i :: done) (E.set o.dst x) F) ∨
      (wantedE ops E o = true ∧ isSt T o.op = false ∧ opW P o E.ev F (fun x F' => (offT ops M lo done i = true ∨ Ext G F') ∧ (soloT T ops M lo done i = true ∨ Ext F F') ∧ treeGo P T ops M lo G K t (i :: done) (E.set o.dst x) F')) := by
    intro hw hs
    have hs : stepB P T o E.ev (baseT lo G i F) (nextT T ops M lo G i o (treeGo P T ops M lo G K t) done E F) := by
      unfold stepBase at hs
      unfold baseT
      cases e : lo.contains i with
      | true => rw [e, cond_true] at hs; exact hs
      | false => rw [e, cond_false] at hs; exact hs
    cases hst : isSt T o.op with
    | true =>
      obtain ⟨x, h1, h2, h3⟩ := step_st hT hst hs
      unfold nextT at h1
      rw [hst, cond_true] at h1
      exact .inl ⟨hw, rfl, x, h2, h3, h1⟩
    | false =>
      have hb : baseT lo G i F = F := by
        unfold baseT
        cases e : lo.contains i with
        | false => rfl
        | true => rw [hlo e] at hst; cases hst
      rw [hb] at hs
      refine .inr ⟨hw, rfl, opW_mono (stepB_sound hT hs) fun v F' hv => ?_⟩
      unfold nextT at hv
      rw [hst, cond_false] at hv
      have hv2 : (offT ops M lo done i = true ∨ Ext G F') ∧ (bif soloT T ops M lo done i then treeGo P T ops M lo G K t (i :: done) (E.set o.dst v) F' else (Ext F F' ∧ treeGo P T ops M lo G K t (i :: done) (E.set o.dst v) F')) := by
        cases hof : offT ops M lo done i with
        | true => rw [hof, cond_true] at hv; exact ⟨.inl rfl, hv⟩
        | false => rw [hof, cond_false] at hv; exact ⟨.inr hv.1, hv.2⟩
      refine ⟨hv2.1, ?_⟩
      have hv := hv2.2
      cases hso : soloT T ops M lo done i with
      | true => rw [hso, cond_true] at hv; exact ⟨.inl rfl, hv⟩
      | false => rw [hso, cond_false] at hv; exact ⟨.inr hv.1, hv.2⟩
  rw [treeGo_eq] at h
  unfold treeStep at h
  rw [ho] at h
  dsimp only at h
  cases hg : o.guard with
  | none =>
    rw [hg] at h
    exact .inr (run (by simp [wantedE, hg]) h)
  | some p =>
    obtain ⟨j, want⟩ := p
    rw [hg] at h
    dsimp only at h
    cases hy : yieldedE ops E j with
    | none =>
      rw [hy] at h
      exact .inl ⟨by simp [wantedE, hg, hy], h⟩
    | some b =>
      rw [hy] at h
      dsimp only at h
      by_cases hb : b = want
      · subst hb
        have h := h.yes (by cases b <;> rfl)
        rw [guardE_eq hy] at h
        exact .inr (run (by simp [wantedE, hg, hy]) h)
      · have hb' : b = !want := by cases b <;> cases want <;> simp_all
        subst hb'
        have h := h.no (by cases want <;> rfl)
        rw [guardE_eq hy] at h
        exact .inl ⟨by simp [wantedE, hg, hy], h⟩
/-- What the check says of one operation. -/
structure ChkT (T : Tab) (ops : Array Oper) (M : List Nat) (lo done : List Nat) (i : Nat) (o : Oper) : Prop where
  get : ops[i]? = some o
  ahead : ∀ e ∈ o.after, Region.binds .any e = true → e.on ∈ done
  low : lo.contains i = true → isSt T o.op = true
  apart : ∀ k p t, ops[k]? = some p → k ≠ i → p.dst = some t → (t ∈ o.looksAt ops → bit M i k = true ∨ bit M k i = true) ∧ (∀ d, o.dst = some d → d ≠ t)
  plain : ∀ cs b, o.op ≠ .select cs b
  new : i ∉ done
theorem chkT_out {T : Tab} {ops : Array Oper} {M lo done : List Nat} {i : Nat} (h : chkT T ops M lo done i = true) : ∃ o, ChkT T ops M lo done i o := by
  unfold chkT at h
  rw [Bool.and_eq_true] at h
  obtain ⟨h, hn⟩ := h
  cases ho : ops[i]? with
  | none => rw [ho] at h; cases h
  | some o =>
    rw [ho] at h
    simp only [Bool.and_eq_true, List.all_eq_true] at h
    obtain ⟨⟨⟨h1, h2⟩, h3⟩, h4⟩ := h
    refine ⟨o, ho, fun e he hb => ?_, fun hl => ?_, fun k p t hp hk ht => ?_, fun cs b e => ?_, by simpa using hn⟩
    · have := h1 e (by simpa using he)
      rw [hb] at this
      simpa using this
    · rw [hl] at h2; simpa using h2
    · have hlt : k < ops.size := (Array.getElem?_eq_some_iff.1 hp).1
      have := h3 k (by simpa using hlt)
      rw [beq_ne hk, Bool.false_or, hp] at this
      dsimp only at this
      rw [ht] at this
      simp only [Bool.and_eq_true, Bool.or_eq_true] at this
      obtain ⟨g1, g2⟩ := this
      refine ⟨fun hm => ?_, fun d hd => ?_⟩
      · rcases g1 with (g | g) | g
        · simp [readsOf, hm] at g
        · exact .inl g
        · exact .inr g
      · rw [hd] at g2
        intro e
        subst e
        simp [Nat.beq_refl] at g2
    · rw [e] at h4; cases h4
theorem checkT_cons {T : Tab} {ops : Array Oper} {M lo : List Nat} {i : Nat} {t : DT} {b : Bool} {done : List Nat} (h : checkT T ops M lo (.cons i t) b done = true) : (∃ o, ChkT T ops M lo done i o) ∧ checkT T ops M lo t true (i :: done) = true := by
  simp only [checkT, Bool.and_eq_true] at h
  exact ⟨chkT_out h.1.2, h.2⟩
theorem checkT_node {T : Tab} {ops : Array Oper} {M lo : List Nat} {t : DT} {done : List Nat} (h : checkT T ops M lo t true done = true) {i : Nat} (hi : i < ops.size) (hn : i ∉ done) : findT T ops M i t = true := by
  have key : nodeOk T ops M done t = true → findT T ops M i t = true := fun h => by
    unfold nodeOk at h
    have := List.all_eq_true.1 h i (by simpa using hi)
    rcases (Bool.or_eq_true_iff.1 this) with h1 | h1
    · exact absurd (by simpa using h1) hn
    · exact h1
  cases t with
  | nil =>
    simp only [checkT] at h
    have := List.all_eq_true.1 h i (by simpa using hi)
    exact absurd (by simpa using this) hn
  | cons j t => simp only [checkT, Bool.and_eq_true, Bool.not_true, Bool.false_or] at h; exact key h.1.1
  | fork l r => simp only [checkT, Bool.and_eq_true, Bool.not_true, Bool.false_or] at h; exact key h.1.1

/-- An operation that is told and not yet done. -/
structure PendT (P : Program) (T : Tab) (ops : Array Oper) (lo : List Nat) (G : Heap) (env0 : Env) (done : List Nat) (v : Nat → Value) (F : Heap) (i : Nat) (o : Oper) (D : Nat → Bool) : Prop where
  get : ops[i]? = some o
  still : isSt T o.op = true
  plain : ∀ cs b, o.op ≠ .select cs b
  apart : ∀ k p t, ops[k]? = some p → k ≠ i → p.dst = some t → t ∈ o.looksAt ops → bit (maskGo ops.toList []) i k = true ∨ bit (maskGo ops.toList []) k i = true
  uniq : ∀ k p t, ops[k]? = some p → k ≠ i → p.dst = some t → ∀ d, o.dst = some d → d ≠ t
  anc : ∀ k, bit (maskGo ops.toList []) i k = true → D k = true
  des : ∀ k, D k = true → bit (maskGo ops.toList []) k i = false
  self : D i = false
  sub : ∀ k, D k = true → k ∈ done
  skip : wantedE ops (WV ops env0 D v) o = false → v i = undef
  run : wantedE ops (WV ops env0 D v) o = true → ∀ F', Ext (baseT lo G i F) F' → opW P o (WV ops env0 D v).ev F' (fun u F'' => u = v i ∧ F'' = F')
  pure : wantedE ops (WV ops env0 D v) o = true → isPl T o.op = true → ∀ F', opW P o (WV ops env0 D v).ev F' (fun u F'' => u = v i ∧ F'' = F')
/-- Told and done, side by side. -/
structure InvT (P : Program) (T : Tab) (ops : Array Oper) (lo : List Nat) (G : Heap) (K : Env → Heap → Prop) (env0 : Env) (m0 : Bool) (n : Nat) (w0 : World) (L : Nat → Bool) (a : Act) (w : World) (b : Bool) (done : List Nat) (rest : DT) (v : Nat → Value) (F : Heap) : Prop where
  check : checkT T ops (maskGo ops.toList []) lo rest b done = true
  got : ∀ i ∈ done, ∃ o, ops[i]? = some o
  closed : Closed ops (fun k => done.contains k)
  sub : ∀ i, L i = true → i ∈ done
  lclosed : Closed ops L
  size : a.tmps.size = n
  held : Held m0 w0.heap.size a.defers w
  val : ∀ t, a.tmps.getD t undef = WV ops env0 L v t
  told : treeGo P T ops (maskGo ops.toList []) lo G K rest done (WV ops env0 (fun k => done.contains k) v) F
  has : Has F w
  floor : (∀ j, lo.contains j = true → j < ops.size → L j = true) ∨ Ext G F
  rst : Rest w0 w
  pend : ∀ i ∈ done, L i = false → ∃ o D, PendT P T ops lo G env0 done v F i o D
theorem InvT.ag {P : Program} {T : Tab} {ops : Array Oper} {lo : List Nat} {G : Heap} {K : Env → Heap → Prop} {env0 : Env} {m0 : Bool} {n : Nat} {w0 : World} {L : Nat → Bool} {a : Act} {w : World} {b : Bool} {done : List Nat} {rest : DT} {v : Nat → Value} {F : Heap} (h : InvT P T ops lo G K env0 m0 n w0 L a w b done rest v F) : Ag n (WV ops env0 L v) a := ⟨h.size, h.val⟩
theorem floor_up {lo : List Nat} {n i : Nat} {L L' : Nat → Bool} {G F : Heap} (h : (∀ j, lo.contains j = true → j < n → L j = true) ∨ Ext G F) (hL : ∀ k, k ≠ i → L' k = L k) (hLi : L' i = true) : (∀ j, lo.contains j = true → j < n → L' j = true) ∨ Ext G F := by
  rcases h with h | h
  · refine .inl fun j h1 h2 => ?_
    by_cases e : j = i
    · rw [e]; exact hLi
    · rw [hL j e]; exact h j h1 h2
  · exact .inr h
theorem base_ext' {lo : List Nat} {G F F' : Heap} {i : Nat} (hg : lo.contains i = true → Ext G F') (hf : lo.contains i = false → Ext F F') : Ext (baseT lo G i F) F' := by
  unfold baseT
  cases e : lo.contains i with
  | true => exact hg e
  | false => exact hf e
theorem base_ext {lo : List Nat} {G F F' : Heap} {i : Nat} (hg : Ext G F') (hf : lo.contains i = false → Ext F F') : Ext (baseT lo G i F) F' := by
  unfold baseT
  cases e : lo.contains i with
  | true => exact hg
  | false => exact hf e
/-- One more is told that moves nothing, or that isn't wanted: it is done later. -/
theorem InvT.push {P : Program} {T : Tab} {ops : Array Oper} {lo : List Nat} {G : Heap} {K : Env → Heap → Prop} {env0 : Env} {m0 : Bool} {n : Nat} {w0 : World} {L : Nat → Bool} {a : Act} {w : World} {b : Bool} {done : List Nat} {rest : DT} {v : Nat → Value} {F : Heap} {i : Nat} {o : Oper} (h : InvT P T ops lo G K env0 m0 n w0 L a w b done (.cons i rest) v F)
    (hc : ChkT T ops (maskGo ops.toList []) lo done i o) (hst : isSt T o.op = true) (x : Value)
    (hskip : wantedE ops (WV ops env0 (fun k => done.contains k) v) o = false → x = undef)
    (hrun : wantedE ops (WV ops env0 (fun k => done.contains k) v) o = true → (∀ F', Ext (baseT lo G i F) F' → opW P o (WV ops env0 (fun k => done.contains k) v).ev F' (fun u F'' => u = x ∧ F'' = F')) ∧ (isPl T o.op = true → ∀ F', opW P o (WV ops env0 (fun k => done.contains k) v).ev F' (fun u F'' => u = x ∧ F'' = F')))
    (ht : treeGo P T ops (maskGo ops.toList []) lo G K rest (i :: done) ((WV ops env0 (fun k => done.contains k) v).set o.dst x) F) :
    InvT P T ops lo G K env0 m0 n w0 L a w true (i :: done) rest (fun k => if k = i then x else v k) F := by
  have hLi : L i = false := by
    cases hL : L i with
    | false => rfl
    | true => exact absurd (h.sub i hL) hc.new
  have hvv : ∀ k, k ≠ i → (fun k => if k = i then x else v k) k = v k := fun k hk => by simp [hk]
  have hDi : (fun k => done.contains k) i = false := by simpa using hc.new
  refine ⟨(checkT_cons h.check).2, fun k hk => ?_, fun k p hp hk e he hb => ?_, fun k hk => List.mem_cons_of_mem _ (h.sub k hk), h.lclosed, h.size, h.held, fun t => ?_, ?_, h.has, h.floor, h.rst, fun k hk hL => ?_⟩
  · rcases List.mem_cons.1 hk with rfl | hk
    · exact ⟨o, hc.get⟩
    · exact h.got k hk
  · have hk : k ∈ i :: done := by simpa using hk
    have : e.on ∈ i :: done := by
      rcases List.mem_cons.1 hk with rfl | hk
      · rw [hc.get] at hp; obtain rfl := Option.some.inj hp
        exact List.mem_cons_of_mem _ (hc.ahead e he hb)
      · have := h.closed k p hp (by simpa using hk) e he hb
        exact List.mem_cons_of_mem _ (by simpa using this)
    simpa using this
  · rw [h.val t, WV_new hLi hvv]
  · have := WV_set (v' := fun k => if k = i then x else v k) hc.get (fun k p t hp hk ht => (hc.apart k p t hp hk ht).2) (env0 := env0) (S := fun k => done.contains k) (S' := fun k => (i :: done).contains k) (v := v) (fun k hk => by simp [hk]) (by simp) hvv
    simp only [if_true] at this
    rw [← this]
    exact ht
  · rcases List.mem_cons.1 hk with rfl | hk
    · refine ⟨o, fun k => done.contains k, hc.get, hst, hc.plain, fun k' p t hp hk' hpt ht' => (hc.apart k' p t hp hk' hpt).1 ht', fun k' p t hp hk' hpt => (hc.apart k' p t hp hk' hpt).2, fun k' hk' => ?_, fun k' hk' => ?_, hDi, fun k' hk' => List.mem_cons_of_mem _ (by simpa using hk'), ?_, ?_, ?_⟩
      · exact mask_sound hk' h.closed (fun p hp e he hb => by rw [hc.get] at hp; obtain rfl := Option.some.inj hp; simpa using hc.ahead e he hb)
      · cases hb : bit (maskGo ops.toList []) k' k with
        | false => rfl
        | true =>
          have := mask_sound hb h.closed (fun p hp e he hb => h.closed k' p hp hk' e he hb)
          exact absurd (this.symm.trans hDi) (by decide)
      · rw [WV_new hDi hvv]; intro hw; simp [hskip hw]
      · rw [WV_new hDi hvv]; intro hw F' hF; exact opW_mono ((hrun hw).1 F' hF) fun u F'' ⟨e1, e2⟩ => ⟨e1.trans (if_pos rfl).symm, e2⟩
      · rw [WV_new hDi hvv]; intro hw hV F'; exact opW_mono ((hrun hw).2 hV F') fun u F'' ⟨e1, e2⟩ => ⟨e1.trans (if_pos rfl).symm, e2⟩
    · obtain ⟨p, D, hp⟩ := h.pend k hk hL
      have hki : k ≠ i := fun e => hc.new (e ▸ hk)
      have hDi' : D i = false := by
        cases hD : D i with
        | false => rfl
        | true => exact absurd (hp.sub i hD) hc.new
      refine ⟨p, D, hp.get, hp.still, hp.plain, hp.apart, hp.uniq, hp.anc, hp.des, hp.self, fun k' hk' => List.mem_cons_of_mem _ (hp.sub k' hk'), ?_, ?_, ?_⟩
      · rw [WV_new hDi' hvv]; intro hw; simp only [hki, if_false]; exact hp.skip hw
      · rw [WV_new hDi' hvv]; intro hw F' hF; simp only [hki, if_false]; exact hp.run hw F' hF
      · rw [WV_new hDi' hvv]; intro hw hV F'; simp only [hki, if_false]; exact hp.pure hw hV F'
/-- What is ready, and not yet told, is told next. -/
theorem InvT.head {P : Program} {T : Tab} {ops : Array Oper} {lo : List Nat} {G : Heap} {K : Env → Heap → Prop} {env0 : Env} {m0 : Bool} {n : Nat} {w0 : World} {L : Nat → Bool} {a : Act} {w : World} {b : Bool} {done : List Nat} {rest : DT} {v : Nat → Value} {F : Heap} {i : Nat} (hi : Ahead ops L i) (h : InvT P T ops lo G K env0 m0 n w0 L a w b done rest v F) (hf : findH (maskGo ops.toList []) i rest = true) :
    ∃ rest', InvT P T ops lo G K env0 m0 n w0 L a w false done (.cons i rest') v F := by
  induction rest generalizing b with
  | nil => cases hf
  | cons j t _ =>
    simp only [findH, Bool.or_eq_true] at hf
    obtain ⟨⟨o, hc⟩, _⟩ := checkT_cons h.check
    rcases hf with hf | hf
    · obtain rfl := Nat.eq_of_beq_eq_true hf
      refine ⟨t, ?_, h.got, h.closed, h.sub, h.lclosed, h.size, h.held, h.val, h.told, h.has, h.floor, h.rst, h.pend⟩
      have := h.check
      simp only [checkT, Bool.and_eq_true] at this ⊢
      exact ⟨⟨rfl, this.1.2⟩, this.2⟩
    · exact absurd (h.sub j (mask_sound hf h.lclosed hi)) hc.new
  | fork l r ihl ihr =>
    simp only [findH, Bool.or_eq_true] at hf
    have hck := h.check
    simp only [checkT, Bool.and_eq_true] at hck
    have go : ∀ (t : DT), checkT T ops (maskGo ops.toList []) lo t false done = true → treeGo P T ops (maskGo ops.toList []) lo G K t done (WV ops env0 (fun k => done.contains k) v) F → InvT P T ops lo G K env0 m0 n w0 L a w false done t v F :=
      fun t h1 h2 => ⟨h1, h.got, h.closed, h.sub, h.lclosed, h.size, h.held, h.val, h2, h.has, h.floor, h.rst, h.pend⟩
    rcases hf with hf | hf
    · exact ihl (go l hck.1.2 h.told.1) hf
    · exact ihr (go r hck.2 h.told.2) hf
theorem InvT.reach {P : Program} {T : Tab} (hT : TabOk P T) {ops : Array Oper} {lo : List Nat} {G : Heap} {K : Env → Heap → Prop} {env0 : Env} {m0 : Bool} {n : Nat} {w0 : World} {L : Nat → Bool} {a : Act} {w : World} {i : Nat} (hi : Ahead ops L i) (hlt : i < ops.size) : ∀ (rest : DT) {done : List Nat} {v : Nat → Value} {F : Heap}, InvT P T ops lo G K env0 m0 n w0 L a w true done rest v F → i ∉ done →
    ∃ b' done' rest' v', InvT P T ops lo G K env0 m0 n w0 L a w b' done' (.cons i rest') v' F := by
  intro rest
  induction rest with
  | nil => intro done v F h hn; have := checkT_node h.check hlt hn; cases this
  | cons j t ih =>
    intro done v F h hn
    have hf := checkT_node h.check hlt hn
    by_cases he : j = i
    · subst he; exact ⟨true, done, t, v, h⟩
    · obtain ⟨⟨o, hc⟩, hr⟩ := checkT_cons h.check
      simp only [findT, Bool.or_eq_true, beq_ne he, Bool.false_eq_true, false_or, Bool.and_eq_true] at hf
      rcases hf with hf | ⟨hst, _⟩
      · exact absurd (h.sub j (mask_sound hf h.lclosed hi)) hc.new
      · have hst : isSt T o.op = true := by unfold stAt at hst; rw [hc.get] at hst; exact hst
        have hn' : i ∉ j :: done := by
          intro hm
          rcases List.mem_cons.1 hm with rfl | hm
          · exact he rfl
          · exact hn hm
        rcases treeGo_cons hT hc.get hc.low h.told with ⟨hw, ht⟩ | ⟨hw, _, x, h1, h2, ht⟩ | ⟨_, hs, _⟩
        · exact ih (h.push hc hst undef (fun _ => rfl) (fun e => by rw [hw] at e; cases e) ht) hn'
        · exact ih (h.push hc hst x (fun e => by rw [hw] at e; cases e) (fun _ => ⟨h1, h2⟩) ht) hn'
        · rw [hst] at hs; cases hs
  | fork l r _ _ =>
    intro done v F h hn
    have hf := checkT_node h.check hlt hn
    obtain ⟨rest', h'⟩ := h.head hi (show findH (maskGo ops.toList []) i (.fork l r) = true from hf)
    exact ⟨false, done, rest', v, h'⟩
/-- All that is ready is done: all is done. -/
theorem all_doneT {T : Tab} {ops : Array Oper} {M lo : List Nat} {listed : Array Bool} (hsz : listed.size = ops.size) (h : Region.ready .any ops listed = []) : ∀ (t : DT) (b : Bool) (done : List Nat), checkT T ops M lo t b done = true → (∀ i ∈ done, listed.getD i false = true) → ∀ i, i < ops.size → listed.getD i false = true := by
  intro t
  induction t with
  | nil =>
    intro b done hc hd i hi
    simp only [checkT] at hc
    have := List.all_eq_true.1 hc i (by simpa using hi)
    exact hd i (by simpa using this)
  | cons x t ih =>
    intro b done hc hd i hi
    obtain ⟨⟨o, hk⟩, hr⟩ := checkT_cons hc
    have hx : listed.getD x false = true := by
      cases hl : listed.getD x false with
      | true => rfl
      | false =>
        refine (not_ready h hk.get ?_ (fun e he hb => hd _ (hk.ahead e he hb))).elim
        have hlt : x < listed.size := by rw [hsz]; exact (Array.getElem?_eq_some_iff.1 hk.get).1
        simpa [Array.getD_eq_getD_getElem?, hlt] using hl
    refine ih true (x :: done) hr (fun k hk' => ?_) i hi
    rcases List.mem_cons.1 hk' with rfl | hk'
    · exact hx
    · exact hd k hk'
  | fork l r ihl _ =>
    intro b done hc hd i hi
    simp only [checkT, Bool.and_eq_true] at hc
    exact ihl false done hc.1.2 hd i hi
/-- What is told and pending is done. -/
theorem InvT.exec {P : Program} {T : Tab} {ops : Array Oper} {lo : List Nat} {G : Heap} {b : Bool} {K : Env → Heap → Prop} {env0 : Env} {m0 : Bool} {n : Nat} {w0 : World} {L L' : Nat → Bool} {a : Act} {w w' : World} {done : List Nat} {rest : DT} {v : Nat → Value} {F : Heap} {i : Nat} {o : Oper} {D : Nat → Bool} (h : InvT P T ops lo G K env0 m0 n w0 L a w b done rest v F)
    (hi : i ∈ done) (hp : PendT P T ops lo G env0 done v F i o D) (ha : Ahead ops L i) (hd : dstOk n o = true) (hL : ∀ k, k ≠ i → L' k = L k) (hLi : L' i = true) (hw : Has F w') (hrw : Rest w w') : InvT P T ops lo G K env0 m0 n w0 L' (a.put o.dst (v i)) w' b done rest v F := by
  have hag := h.ag.put hd (v i)
  have hr := h.rst.trans hrw
  have hh := h.held.mono hrw
  have hL1 : ∀ k, L k = true → L' k = true := fun k hk => by
    by_cases e : k = i
    · rw [e]; exact hLi
    · rw [hL k e]; exact hk
  have hL2 : ∀ k, L' k = true → k = i ∨ L k = true := fun k hk => by
    by_cases e : k = i
    · exact .inl e
    · rw [hL k e] at hk; exact .inr hk
  refine ⟨h.check, h.got, h.closed, fun k hk => ?_, fun k p hp' hk e he hb => ?_, hag.size, by rw [put_defers]; exact hh, fun t => ?_, h.told, hw, floor_up h.floor hL hLi, hr, fun k hk hLk => ?_⟩
  · rcases hL2 k hk with rfl | hk
    · exact hi
    · exact h.sub k hk
  · rcases hL2 k hk with rfl | hk
    · exact hL1 _ (ha p hp' e he hb)
    · exact hL1 _ (h.lclosed k p hp' hk e he hb)
  · rw [hag.tmp t, WV_set (v' := v) hp.get hp.uniq hL hLi (fun _ _ => rfl)]
  · refine h.pend k hk ?_
    cases e : L k with
    | false => rfl
    | true => rw [hL1 k e] at hLk; cases hLk
theorem InvT.move {P : Program} {T : Tab} {ops : Array Oper} {lo : List Nat} {G : Heap} {b : Bool} {K : Env → Heap → Prop} {env0 : Env} {m0 : Bool} {n : Nat} {w0 : World} {L L' : Nat → Bool} {a : Act} {w w' : World} {done : List Nat} {rest : DT} {v : Nat → Value} {F F' : Heap} {i : Nat} {o : Oper} (h : InvT P T ops lo G K env0 m0 n w0 L a w b done (.cons i rest) v F)
    (hc : ChkT T ops (maskGo ops.toList []) lo done i o) (ha : Ahead ops L i) (hd : dstOk n o = true) (hL : ∀ k, k ≠ i → L' k = L k) (hLi : L' i = true) (x : Value) (hw : Has F' w') (hrw : Rest w w')
    (ht : treeGo P T ops (maskGo ops.toList []) lo G K rest (i :: done) ((WV ops env0 (fun k => done.contains k) v).set o.dst x) F') (hfl : (∀ j, lo.contains j = true → j < ops.size → L' j = true) ∨ Ext G F')
    (hkeep : (∀ k ∈ done, L k = false → ∀ p, ops[k]? = some p → isSt T p.op = true → isPl T p.op = true ∨ lo.contains k = true) ∨ Ext F F') :
    InvT P T ops lo G K env0 m0 n w0 L' (a.put o.dst x) w' true (i :: done) rest (fun k => if k = i then x else v k) F' := by
  have hag := h.ag.put hd x
  have hr := h.rst.trans hrw
  have hh := h.held.mono hrw
  have hL0 : L i = false := by
    cases e : L i with
    | false => rfl
    | true => exact absurd (h.sub i e) hc.new
  have hvv : ∀ k, k ≠ i → (fun k => if k = i then x else v k) k = v k := fun k hk => by simp [hk]
  have huniq : ∀ k p t, ops[k]? = some p → k ≠ i → p.dst = some t → ∀ d, o.dst = some d → d ≠ t := fun k p t hp hk ht => (hc.apart k p t hp hk ht).2
  have hL1 : ∀ k, L k = true → L' k = true := fun k hk => by
    by_cases e : k = i
    · rw [e]; exact hLi
    · rw [hL k e]; exact hk
  have hL2 : ∀ k, L' k = true → k = i ∨ L k = true := fun k hk => by
    by_cases e : k = i
    · exact .inl e
    · rw [hL k e] at hk; exact .inr hk
  refine ⟨(checkT_cons h.check).2, fun k hk => ?_, fun k p hp hk e he hb => ?_, fun k hk => ?_, fun k p hp' hk e he hb => ?_, hag.size, by rw [put_defers]; exact hh, fun t => ?_, ?_, hw, hfl, hr, fun k hk hLk => ?_⟩
  · rcases List.mem_cons.1 hk with rfl | hk
    · exact ⟨o, hc.get⟩
    · exact h.got k hk
  · have hk : k ∈ i :: done := by simpa using hk
    have : e.on ∈ i :: done := by
      rcases List.mem_cons.1 hk with rfl | hk
      · rw [hc.get] at hp; obtain rfl := Option.some.inj hp
        exact List.mem_cons_of_mem _ (hc.ahead e he hb)
      · have := h.closed k p hp (by simpa using hk) e he hb
        exact List.mem_cons_of_mem _ (by simpa using this)
    simpa using this
  · rcases hL2 k hk with rfl | hk
    · simp
    · exact List.mem_cons_of_mem _ (h.sub k hk)
  · rcases hL2 k hk with rfl | hk
    · exact hL1 _ (ha p hp' e he hb)
    · exact hL1 _ (h.lclosed k p hp' hk e he hb)
  · have := WV_set (v' := fun k => if k = i then x else v k) hc.get huniq (env0 := env0) (S := L) (S' := L') (v := v) hL hLi hvv
    simp only [if_true] at this
    rw [hag.tmp t, this]
  · have := WV_set (v' := fun k => if k = i then x else v k) hc.get huniq (env0 := env0) (S := fun k => done.contains k) (S' := fun k => (i :: done).contains k) (v := v) (fun k hk => by simp [hk]) (by simp) hvv
    simp only [if_true] at this
    rw [← this]
    exact ht
  · have hki : k ≠ i := by rintro rfl; rw [hLi] at hLk; cases hLk
    have hk : k ∈ done := by
      rcases List.mem_cons.1 hk with rfl | hk
      · exact absurd rfl hki
      · exact hk
    rw [hL k hki] at hLk
    obtain ⟨p, D, hp⟩ := h.pend k hk hLk
    have hDi' : D i = false := by
      cases hD : D i with
      | false => rfl
      | true => exact absurd (hp.sub i hD) hc.new
    refine ⟨p, D, hp.get, hp.still, hp.plain, hp.apart, hp.uniq, hp.anc, hp.des, hp.self, fun k' hk' => List.mem_cons_of_mem _ (hp.sub k' hk'), ?_, ?_, ?_⟩
    · rw [WV_new hDi' hvv]; intro hw; simp only [hki, if_false]; exact hp.skip hw
    · rw [WV_new hDi' hvv]
      intro hw H hG
      simp only [hki, if_false]
      rcases hkeep with hv | hF
      · rcases hv k hk hLk p hp.get hp.still with hv | hv
        · exact hp.pure hw hv H
        · refine hp.run hw H (base_ext ?_ (fun e => by rw [hv] at e; cases e))
          have := hG
          unfold baseT at this
          rw [hv, cond_true] at this
          exact this
      · refine hp.run hw H ?_
        unfold baseT at hG ⊢
        cases e : lo.contains k with
        | true => rw [e, cond_true] at hG; exact hG
        | false => rw [e, cond_false] at hG; exact hF.trans hG
    · rw [WV_new hDi' hvv]; intro hw hV F'; simp only [hki, if_false]; exact hp.pure hw hV F'
theorem any_of_invT {P : Program} {T : Tab} (hT : TabOk P T) {ops : Array Oper} {lo : List Nat} {G : Heap} {σ : DT} (hchk : checkT T ops (maskGo ops.toList []) lo σ true [] = true) {K : Env → Heap → Prop} {Q : Exit → Env → Heap → Prop} (hQ : ∀ env F, K env F → Q .normal env F) {env0 : Env} {m0 : Bool} {n : Nat} {w0 : World} (hd : ∀ o ∈ ops.toList, dstOk n o = true) :
    ∀ (fuel : Nat) (listed : Array Bool) (a : Act) (w : World) (done : List Nat) (rest : DT) (v : Nat → Value) (F : Heap), InvT P T ops lo G K env0 m0 n w0 (fun i => listed.getD i false) a w true done rest v F → listed.size = ops.size →
      ((List.range ops.size).filter fun k => !listed.getD k false).length ≤ fuel → wpAny P .any ops (up m0 n w0 Q) fuel listed a w := by
  have fin : ∀ (listed : Array Bool) (a : Act) (w : World) (done : List Nat) (rest : DT) (v : Nat → Value) (F : Heap), InvT P T ops lo G K env0 m0 n w0 (fun i => listed.getD i false) a w true done rest v F → listed.size = ops.size → Region.ready .any ops listed = [] → up m0 n w0 Q .normal a w := by
    intro listed a w done rest v F h hsz hr
    have hl : ∀ i, i < ops.size → listed.getD i false = true := all_doneT hsz hr σ true [] hchk (fun _ h => by cases h)
    have end_ : ∀ (t : DT) (b : Bool), checkT T ops (maskGo ops.toList []) lo t b done = true → treeGo P T ops (maskGo ops.toList []) lo G K t done (WV ops env0 (fun k => done.contains k) v) F → K (WV ops env0 (fun k => done.contains k) v) F := by
      intro t
      induction t with
      | nil => intro b _ h; exact h
      | cons x t _ =>
        intro b hc _
        obtain ⟨⟨o, hc⟩, _⟩ := checkT_cons hc
        exact absurd (h.sub x (hl x (Array.getElem?_eq_some_iff.1 hc.get).1)) hc.new
      | fork l r ihl _ =>
        intro b hc ht
        simp only [checkT, Bool.and_eq_true] at hc
        exact ihl false hc.1.2 ht.1
    have ht := end_ rest true h.check h.told
    refine ⟨_, F, h.ag, h.held, h.has, h.rst, hQ _ _ ?_⟩
    have : WV ops env0 (fun i => listed.getD i false) v = WV ops env0 (fun k => done.contains k) v := by
      funext t
      refine WV_congr fun k hk => ⟨?_, fun _ => rfl⟩
      obtain ⟨_, _, _, hlt⟩ := writer_some hk
      have h1 := hl k hlt
      have h2 := h.sub k h1
      show listed.getD k false = done.contains k
      rw [h1]
      exact (by simpa using h2 : done.contains k = true).symm
    rw [this]
    exact ht
  intro fuel
  induction fuel with
  | zero =>
    intro listed a w done rest v F h hsz hc
    have hl : ∀ i, i < ops.size → listed.getD i false = true := fun i hi => by
      cases e : listed.getD i false with
      | true => rfl
      | false =>
        have : i ∈ (List.range ops.size).filter fun k => !listed.getD k false := by rw [List.mem_filter]; exact ⟨by simpa using hi, by rw [e]; rfl⟩
        rw [List.eq_nil_of_length_eq_zero (Nat.le_zero.1 hc)] at this
        cases this
    have hr : Region.ready .any ops listed = [] := by
      cases hr : Region.ready .any ops listed with
      | nil => rfl
      | cons x l =>
        obtain ⟨h1, h2, _⟩ := ready_of (by rw [hr]; simp : x ∈ Region.ready .any ops listed)
        have h3 := hl x h1
        rw [Array.getD_eq_getD_getElem?] at h2 h3
        rw [Array.getElem?_eq_getElem (by omega)] at h2 h3
        simp only [Option.getD_some] at h2 h3
        rw [h2] at h3; cases h3
    exact ⟨hr, fin listed a w done rest v F h hsz hr⟩
  | succ fuel ih =>
    intro listed a w done rest v F h hsz hcount
    refine ⟨fun hr => fin listed a w done rest v F h hsz hr, fun i hi => ?_⟩
    obtain ⟨hlt, hl, o, ho, hah⟩ := ready_of hi
    have hLi : listed.getD i false = false := by
      rw [Array.getD_eq_getD_getElem?, Array.getElem?_eq_getElem (by omega)] at hl ⊢
      exact hl
    have hahead : Ahead ops (fun k => listed.getD k false) i := fun p hp e he hb => by rw [ho] at hp; obtain rfl := Option.some.inj hp; exact hah e he hb
    have hdo : dstOk n o = true := hd o (List.mem_of_getElem? (by simpa using ho))
    have hL1 : ∀ k, k ≠ i → (listed.setIfInBounds i true).getD k false = listed.getD k false := fun k hk => by simp [Array.getD_eq_getD_getElem?, Ne.symm hk]
    have hL2 : (listed.setIfInBounds i true).getD i false = true := by simp [Array.getD_eq_getD_getElem?, hsz, hlt]
    have hcnt : ((List.range ops.size).filter fun k => !(listed.setIfInBounds i true).getD k false).length ≤ fuel := by
      have := count_set hlt hLi hsz
      omega
    -- an operation that is told: it is done
    have old2 : ∀ (done : List Nat) (rest : DT) (v : Nat → Value) (F : Heap), InvT P T ops lo G K env0 m0 n w0 (fun i => listed.getD i false) a w true done rest v F → i ∈ done → wpOp P ops (up m0 n w0 Q) i (wpAny P .any ops (up m0 n w0 Q) fuel (listed.setIfInBounds i true)) a w := by
      intro done rest v F h hid
      obtain ⟨o', D, hp⟩ := h.pend i hid hLi
      have : o' = o := by have := hp.get; rw [ho] at this; exact (Option.some.inj this).symm
      subst this
      have hagr : ∀ t ∈ o'.looksAt ops, WV ops env0 (fun k => listed.getD k false) v t = WV ops env0 D v t := fun t ht => by
        refine agree hp.apart (fun k hk => ⟨mask_sound hk h.lclosed hahead, hp.anc k hk⟩) (fun k hk => ⟨?_, ?_⟩) ⟨hLi, hp.self⟩ ht
        · cases e : listed.getD k false with
          | false => rfl
          | true =>
            have := mask_sound hk h.lclosed (fun p hp' e' he hb => h.lclosed k p hp' e e' he hb)
            rw [hLi] at this; cases this
        · cases e : D k with
          | false => rfl
          | true => have := hp.des k e; rw [hk] at this; cases this
      unfold wpOp
      rw [ho]
      dsimp only
      rw [wanted_of h.ag, wantedE_agree hagr]
      cases hw : wantedE ops (WV ops env0 D v) o' with
      | false =>
        rw [if_neg (by decide), ← hp.skip hw]
        exact ih _ _ _ done rest v F (h.exec hid hp hahead hdo hL1 hL2 h.has (Rest.refl _)) (by simpa using hsz) hcnt
      | true =>
        rw [if_pos rfl]
        have hrun := (opW_congr hp.plain (ev_agree hagr)).2 (hp.run hw F (base_ext' (fun hl => h.floor.resolve_left fun hf => absurd (hf i hl hlt) (by rw [hLi]; decide)) (fun _ => Ext.refl F)))
        refine .inl (opW_sound hrun h.ag h.has fun u F' w' hu hF' hr' => ?_)
        obtain ⟨rfl, rfl⟩ := hu
        exact ih _ _ _ done rest v F' (h.exec hid hp hahead hdo hL1 hL2 hF' hr') (by simpa using hsz) hcnt
    by_cases hid : i ∈ done
    · exact old2 _ _ _ _ h hid
    · obtain ⟨b, done, rest, v, h⟩ := h.reach hT hahead hlt rest hid
      obtain ⟨⟨o', hc⟩, hr⟩ := checkT_cons h.check
      have : o' = o := by have := hc.get; rw [ho] at this; exact (Option.some.inj this).symm
      subst this
      have hagr : ∀ t ∈ o'.looksAt ops, WV ops env0 (fun k => listed.getD k false) v t = WV ops env0 (fun k => done.contains k) v t := fun t ht => by
        refine agree (fun k p t hp hk hpt ht => (hc.apart k p t hp hk hpt).1 ht) (fun k hk => ⟨mask_sound hk h.lclosed hahead, ?_⟩) (fun k hk => ⟨?_, ?_⟩) ⟨hLi, by simpa using hc.new⟩ ht
        · exact mask_sound hk h.closed (fun p hp e he hb => by rw [hc.get] at hp; obtain rfl := Option.some.inj hp; simpa using hc.ahead e he hb)
        · cases e : listed.getD k false with
          | false => rfl
          | true =>
            have := mask_sound hk h.lclosed (fun p hp' e' he hb => h.lclosed k p hp' e e' he hb)
            rw [hLi] at this; cases this
        · cases e : done.contains k with
          | false => rfl
          | true =>
            have : done.contains i = true := mask_sound hk h.closed (fun p hp' e' he hb => h.closed k p hp' e e' he hb)
            exact absurd (by simpa using this) hc.new
      rcases treeGo_cons hT hc.get hc.low h.told with ⟨hw, ht⟩ | ⟨hw, hst, x, h1, h2, ht⟩ | ⟨hw, hst, hrun⟩
      · unfold wpOp
        rw [ho]
        dsimp only
        rw [wanted_of h.ag, wantedE_agree hagr, hw, if_neg (by decide)]
        exact ih _ _ _ _ _ _ F (h.move hc hahead hdo hL1 hL2 undef h.has (Rest.refl _) ht (floor_up h.floor hL1 hL2) (.inr (Ext.refl F))) (by simpa using hsz) hcnt
      · exact old2 _ _ _ _ (h.push hc hst x (fun e => by rw [hw] at e; cases e) (fun _ => ⟨h1, h2⟩) ht) (by simp)
      · unfold wpOp
        rw [ho]
        dsimp only
        rw [wanted_of h.ag, wantedE_agree hagr, hw, if_pos rfl]
        have hrun := (opW_congr hc.plain (ev_agree hagr)).2 hrun
        refine .inl (opW_sound hrun h.ag h.has fun x F' w' hu hF' hr' => ?_)
        obtain ⟨hfl, hk, ht⟩ := hu
        refine ih _ _ _ _ _ _ F' (h.move hc hahead hdo hL1 hL2 x hF' hr' ht ?hfl ?_) (by simpa using hsz) hcnt
        case hfl =>
          rcases hfl with hof | hG
          · refine .inl fun j h1 h2 => ?_
            unfold offT at hof
            have := List.all_eq_true.1 (Bool.and_eq_true_iff.1 hof).2 j (by simpa using h1)
            rw [Bool.or_eq_true, Bool.and_eq_true] at this
            rcases this with g | ⟨_, g⟩
            · exact absurd (Nat.le_of_ble_eq_true g) (by omega)
            · have hLj := mask_sound g h.lclosed hahead
              by_cases e : j = i
              · rw [e]; exact hL2
              · rw [hL1 j e]; exact hLj
          · exact .inr hG
        rcases hk with hs | hF
        · refine .inl fun k hk hLk p hp hst' => ?_
          have := List.all_eq_true.1 hs k hk
          rw [hp] at this
          simp only [Bool.or_eq_true] at this
          rcases this with ((g | g) | g) | g
          · exact .inl g
          · rw [hst'] at g; cases g
          · exact .inr g
          · have := mask_sound g h.lclosed hahead
            rw [hLk] at this; cases this
        · exact .inr hF
def treeOk (T : Tab) (ops : Array Oper) (lo : List Nat) (σ : DT) : Bool := checkT T ops (maskGo ops.toList []) lo σ true []
/-- A region that draws its order, told as a tree; what stands in lo is told by memory as it was when the region began. -/
theorem draw_tree_at {P : Program} {T : Tab} (hT : TabOk P T) (hm : P.follows .mixedOrders = true) {ops : Array Oper} (lo : List Nat) (σ : DT) (hok : treeOk T ops lo σ = true) {K : Env → Heap → Prop} {env : Env} {F : Heap} (G : Heap) (hG : Ext G F)
    (h : treeGo P T ops (maskGo ops.toList []) lo G K σ [] env F) : DrawK P T ops K env F := by
  refine ⟨fun m0 n a w w0 id Q hd hQ ha hh hw hr => ?_⟩
  refine wp_region_any hm ?_
  have h0 : ∀ k, (Array.replicate ops.size false).getD k false = false := fun k => by
    rw [Array.getD_eq_getD_getElem?, Array.getElem?_replicate]
    split <;> rfl
  have hWV : ∀ S : Nat → Bool, (∀ k, S k = false) → WV ops env S (fun _ => undef) = env := fun S hS => by
    funext t
    unfold WV
    cases writer ops t with
    | none => rfl
    | some k => dsimp only; rw [hS k]; rfl
  refine any_of_invT hT hok hQ hd ops.size _ a _ [] σ (fun _ => undef) F (env0 := env) ⟨hok, fun _ h => by (cases h), fun k o _ hk => by simp at hk, fun i hi => ?_, fun k o _ hk => ?_, ha.size, hh.mono ⟨rfl, rfl, rfl, Nat.le_refl _, fun _ h => h⟩, fun t => ?_, ?_, hw.of_heap rfl, .inr hG, hr.trans ⟨rfl, rfl, rfl, Nat.le_refl _, fun _ h => h⟩, fun _ h => by (cases h)⟩ (by simp) ?_
  · rw [h0 i] at hi; cases hi
  · rw [h0 k] at hk; cases hk
  · rw [ha.tmp t, hWV _ h0]
  · rw [hWV _ (fun k => by simp)]; exact h
  · exact Nat.le_trans (List.length_filter_le _ _) (by simp)
/-- .. by memory as it was when the region began. -/
theorem draw_tree {P : Program} {T : Tab} (hT : TabOk P T) (hm : P.follows .mixedOrders = true) {ops : Array Oper} (lo : List Nat) (σ : DT) (hok : treeOk T ops lo σ = true) {K : Env → Heap → Prop} {env : Env} {F : Heap}
    (h : treeGo P T ops (maskGo ops.toList []) lo F K σ [] env F) : DrawK P T ops K env F := draw_tree_at hT hm lo σ hok F (Ext.refl F) h
/-- One block alone. -/
def Heap.only (F : Heap) (b : Nat) : Heap := fun c => if c = b then F b else none
theorem only_ext {F G : Heap} {b : Nat} (h : G b = F b) : Ext (F.only b) G := fun c o hc => by
  unfold Heap.only at hc
  split at hc
  · next e => subst e; rw [h]; exact hc
  · cases hc
theorem only_at {F : Heap} {b : Nat} {o : Obj} (h : F b = some o) : F.only b b = some o := by unfold Heap.only; rw [if_pos rfl]; exact h
end Go.Al

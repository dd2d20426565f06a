/- The logic of a known part of memory, 7: a region that draws its order, told in one order. What moves memory stands in one row; what only looks may come later than it is told. It holds for every program that follows mixed orders. -/
import Derived.Test.YtlkdbmoocajjlaaAlWalk
namespace Go.Al
open Go

/-- Which operations stand ahead of each: a mask each, by the edges that bind. -/
def maskGo : List Oper → List Nat → List Nat
  | [], acc => acc
  | o :: rest, acc => maskGo rest (acc ++ [o.after.toList.foldr (fun e s => bif Region.binds .any e then s ||| (2 ^ e.on ||| acc.getD e.on 0) else s) 0])
def isStill (op : Op) : Bool := isVal op || (match op with | .load _ _ => true | _ => false)
def readsOf (ops : Array Oper) (o : Oper) : List Nat := o.looksAt ops
def bit (M : List Nat) (i k : Nat) : Bool := (M.getD i 0).testBit k
def checkGo (ops : Array Oper) (M : List Nat) : List Nat → List Nat → Bool
  | _, [] => true
  | done, i :: rest =>
    (match ops[i]? with
    | none => false
    | some o =>
      (o.after.toList.all fun e => !Region.binds .any e || done.contains e.on) &&
      (done.all fun m => (match ops[m]? with | some p => isStill p.op | none => false) || bit M i m) &&
      ((List.range ops.size).all fun k => Nat.beq k i || (match ops[k]? with
        | some p => (match p.dst with
          | some t => (!(readsOf ops o).contains t || bit M i k || bit M k i) && (match o.dst with | some d => !Nat.beq d t | none => true)
          | none => true)
        | none => true)) &&
      (match o.op with | .select _ _ => false | _ => true)) &&
    !done.contains i && checkGo ops M (i :: done) rest
def drawOk (ops : Array Oper) (σ : List Nat) : Bool := checkGo ops (maskGo ops.toList []) [] σ && (List.range ops.size).all fun i => σ.contains i
def soloB (ops : Array Oper) (M : List Nat) (done : List Nat) (i : Nat) : Bool := done.all fun j => (match ops[j]? with | some p => isVal p.op || !isStill p.op | none => true) || bit M i j
/-- The region, told in the order σ. -/
def drawStep (P : Program) (T : Tab) (ops : Array Oper) (M : List Nat) (i : Nat) (ih : List Nat → Env → Heap → Prop) (done : List Nat) (env : Env) (F : Heap) : Prop :=
    match ops[i]? with
    | none => False
    | some o =>
      match o.guard with
      | none => stepK P T o env.ev F fun v F' => bif isStill o.op || soloB ops M done i then ih (i :: done) (env.set o.dst v) F' else (Ext F F' ∧ ih (i :: done) (env.set o.dst v) F')
      | some (j, want) => match yieldedE ops env j with
        | some b => CondK (match want with | true => b | false => !b)
            (stepK P T o (guardE ops j want env).ev F fun v F' => bif isStill o.op || soloB ops M done i then ih (i :: done) ((guardE ops j want env).set o.dst v) F' else (Ext F F' ∧ ih (i :: done) ((guardE ops j want env).set o.dst v) F'))
            (ih (i :: done) ((guardE ops j (!want) env).set o.dst undef) F)
        | none => ih (i :: done) (env.set o.dst undef) F
def drawGo (P : Program) (T : Tab) (ops : Array Oper) (M : List Nat) (K : Env → Heap → Prop) (done l : List Nat) : Env → Heap → Prop :=
  (List.rec (motive := fun _ => List Nat → Env → Heap → Prop) (fun _ => K) (fun i _ ih => drawStep P T ops M i ih) l : List Nat → Env → Heap → Prop) done
theorem drawGo_eq {P : Program} {T : Tab} {ops : Array Oper} {M : List Nat} {K : Env → Heap → Prop} {done rest : List Nat} {i : Nat} {env : Env} {F : Heap} : drawGo P T ops M K done (i :: rest) env F = drawStep P T ops M i (fun d => drawGo P T ops M K d rest) done env F := rfl

/-- What only looks. -/
theorem load_still {P : Program} {T : Tab} (hT : TabOk P T) {o : Oper} {t : TypeId} {x : Operand} (ho : o.op = .load t x) {ev : Operand → Value} {F : Heap} {K : Value → Heap → Prop} (h : memK P T o ev F K) :
    ∃ v, K v F ∧ ∀ F', Ext F F' → opW P o ev F' (fun u F'' => u = v ∧ F'' = F') := by
  unfold memK at h
  rw [ho] at h
  dsimp only at h
  split at h
  case h_2 => exact h.elim
  case h_1 d ad ht ha =>
    have key : ∀ (F' : Heap) (L : Value → Heap → Prop), (bif aggD d.desc then LoadsK F' ad d.size (fun v => L v F') else LoadK F' ad (fun v => L v F')) → opW P o ev F' L := by
      intro F' L hL
      refine opW_v (s := Instr.loadAt t (ev x)) (by simp only [execOp, ho]) ?_
      rw [ha]
      simp only [Instr.loadAt, Instr.sureAddr, wk_bind, wk_pure]
      exact wk_loadVar hT ht hL
    cases hd : aggD d.desc with
    | true =>
      rw [hd, cond_true] at h
      obtain ⟨c, e, fz, hb, hs, hl, hk⟩ := h.out
      refine ⟨_, hk, fun F' hF => key F' _ ?_⟩
      rw [hd, cond_true]
      exact ⟨c, e, fz, hF _ _ hb, hs, hl, rfl, rfl⟩
    | false =>
      rw [hd, cond_false] at h
      obtain ⟨v, hv, hk⟩ := h.out
      refine ⟨v, hk, fun F' hF => key F' _ ?_⟩
      rw [hd, cond_false]
      exact ⟨v, hF.cell hv, rfl, rfl⟩
theorem step_still {P : Program} {T : Tab} (hT : TabOk P T) {o : Oper} (hs : isStill o.op = true) {ev : Operand → Value} {F : Heap} {K : Value → Heap → Prop} (h : stepK P T o ev F K) :
    ∃ v, K v F ∧ (∀ F', Ext F F' → opW P o ev F' (fun u F'' => u = v ∧ F'' = F')) ∧ (isVal o.op = true → ∀ F', opW P o ev F' (fun u F'' => u = v ∧ F'' = F')) := by
  unfold stepK at h
  cases hv : isVal o.op with
  | true =>
    rw [hv, cond_true] at h
    obtain ⟨v, hk, hst⟩ := valK_sound hT rfl h
    exact ⟨v, hk, fun F' _ => hst F', fun _ => hst⟩
  | false =>
    rw [hv, cond_false] at h
    unfold isStill at hs
    rw [hv, Bool.false_or] at hs
    cases ho : o.op <;> rw [ho] at hs <;> first | (cases hs; done) | skip
    obtain ⟨v, hk, hst⟩ := load_still hT ho h
    exact ⟨v, hk, hst, fun e => by cases e⟩

/-- A set of operations with all that stand ahead of them. -/
def Closed (ops : Array Oper) (L : Nat → Bool) : Prop := ∀ (k : Nat) (o : Oper), ops[k]? = some o → L k = true → ∀ e ∈ o.after, Region.binds .any e = true → L e.on = true
def Ahead (ops : Array Oper) (L : Nat → Bool) (i : Nat) : Prop := ∀ (o : Oper), ops[i]? = some o → ∀ e ∈ o.after, Region.binds .any e = true → L e.on = true
theorem foldr_bit (acc : List Nat) (j : Nat) : ∀ (l : List Edge), (l.foldr (fun e s => bif Region.binds .any e then s ||| (2 ^ e.on ||| acc.getD e.on 0) else s) 0).testBit j = true →
    ∃ e ∈ l, Region.binds .any e = true ∧ (e.on = j ∨ (acc.getD e.on 0).testBit j = true) := by
  intro l
  induction l with
  | nil => intro h; simp at h
  | cons e l ih =>
    intro h
    rw [List.foldr_cons] at h
    cases hb : Region.binds .any e with
    | false =>
      rw [hb, cond_false] at h
      obtain ⟨e', h1, h2⟩ := ih h
      exact ⟨e', by simp [h1], h2⟩
    | true =>
      rw [hb, cond_true, Nat.testBit_or, Nat.testBit_or, Bool.or_eq_true, Bool.or_eq_true] at h
      rcases h with h | h | h
      · obtain ⟨e', h1, h2⟩ := ih h
        exact ⟨e', by simp [h1], h2⟩
      · refine ⟨e, by simp, hb, .inl ?_⟩
        rw [Nat.testBit_two_pow] at h
        simpa using h
      · exact ⟨e, by simp, hb, .inr h⟩
theorem maskGo_sound {ops : Array Oper} : ∀ (l : List Oper) (acc : List Nat), ops.toList.drop acc.length = l →
    (∀ i j, (acc.getD i 0).testBit j = true → ∀ L, Closed ops L → Ahead ops L i → L j = true) →
    ∀ i j, ((maskGo l acc).getD i 0).testBit j = true → ∀ L, Closed ops L → Ahead ops L i → L j = true := by
  intro l
  induction l with
  | nil => intro acc _ h; exact h
  | cons o rest ih =>
    intro acc hd h
    refine ih _ (by rw [List.length_append, List.length_singleton, ← List.tail_drop, hd]; rfl) ?_
    intro i j hj L hL hi
    by_cases hlt : i < acc.length
    · rw [List.getD_eq_getElem?_getD, List.getElem?_append_left hlt, ← List.getD_eq_getElem?_getD] at hj
      exact h i j hj L hL hi
    · rw [List.getD_eq_getElem?_getD, List.getElem?_append_right (by omega)] at hj
      by_cases hi0 : i - acc.length = 0
      · have hie : i = acc.length := by omega
        rw [hi0] at hj
        simp only [List.getElem?_cons_zero, Option.getD_some] at hj
        obtain ⟨e, he, hb, hej⟩ := foldr_bit acc j _ hj
        have ho : ops[i]? = some o := by
          have : ops.toList[i]? = some o := by rw [hie, ← List.head?_drop, hd]; rfl
          simpa using this
        have hLe : L e.on = true := hi o ho e (by simpa using he) hb
        rcases hej with rfl | hej
        · exact hLe
        · exact h e.on j hej L hL (fun p hp e' he' hb' => hL e.on p hp hLe e' he' hb')
      · obtain ⟨m, hm⟩ : ∃ m, i - acc.length = m + 1 := ⟨i - acc.length - 1, by omega⟩
        rw [hm] at hj
        simp at hj
theorem mask_sound {ops : Array Oper} {i j : Nat} (h : bit (maskGo ops.toList []) i j = true) {L : Nat → Bool} (hL : Closed ops L) (hi : Ahead ops L i) : L j = true :=
  maskGo_sound ops.toList [] (by simp) (fun i j h => by simp at h) i j h L hL hi

/-- Who writes a temporary. -/
def writer (ops : Array Oper) (t : Nat) : Option Nat := (List.range ops.size).find? fun k => match ops[k]? with | some p => p.dst == some t | none => false
def WV (ops : Array Oper) (env0 : Env) (S : Nat → Bool) (v : Nat → Value) : Env := fun t =>
  match writer ops t with
  | some k => bif S k then v k else env0 t
  | none => env0 t
theorem writer_some {ops : Array Oper} {t k : Nat} (h : writer ops t = some k) : ∃ p, ops[k]? = some p ∧ p.dst = some t ∧ k < ops.size := by
  have h1 := List.find?_some h
  have h2 := List.mem_of_find?_eq_some h
  cases hp : ops[k]? with
  | none => simp [hp] at h1
  | some p => exact ⟨p, rfl, by simpa [hp] using h1, by simpa using h2⟩
theorem WV_congr {ops : Array Oper} {env0 : Env} {S S' : Nat → Bool} {v v' : Nat → Value} {t : Nat} (h : ∀ k, writer ops t = some k → S k = S' k ∧ (S k = true → v k = v' k)) : WV ops env0 S v t = WV ops env0 S' v' t := by
  unfold WV
  cases hw : writer ops t with
  | none => rfl
  | some k =>
    obtain ⟨h1, h2⟩ := h k hw
    dsimp only
    rw [← h1]
    cases hS : S k with
    | true => rw [cond_true, cond_true, h2 hS]
    | false => rfl

def wantedE (ops : Array Oper) (env : Env) (o : Oper) : Bool := match o.guard with | none => true | some (j, w) => yieldedE ops env j == some w
theorem wanted_of {ops : Array Oper} {n : Nat} {env : Env} {a : Act} (h : Ag n env a) (o : Oper) : Region.wanted o (yielded ops a.tmps) = wantedE ops env o := by
  unfold Region.wanted wantedE
  cases o.guard with
  | none => rfl
  | some p => obtain ⟨j, w⟩ := p; simp only [yielded_of h]
theorem drawGo_cons {P : Program} {T : Tab} (hT : TabOk P T) {ops : Array Oper} {M : List Nat} {K : Env → Heap → Prop} {done rest : List Nat} {i : Nat} {o : Oper} {E : Env} {F : Heap} (ho : ops[i]? = some o) (h : drawGo P T ops M K done (i :: rest) E F) :
    (wantedE ops E o = false ∧ drawGo P T ops M K (i :: done) rest (E.set o.dst undef) F) ∨
    (wantedE ops E o = true ∧ isStill o.op = true ∧ ∃ x, (∀ F', Ext F F' → opW P o E.ev F' (fun u F'' => u = x ∧ F'' = F')) ∧ (isVal o.op = true → ∀ F', opW P o E.ev F' (fun u F'' => u = x ∧ F'' = F')) ∧ drawGo P T ops M K (i :: done) rest (E.set o.dst x) F) ∨
    (wantedE ops E o = true ∧ isStill o.op = false ∧ opW P o E.ev F (fun x F' => (soloB ops M done i = true ∨ Ext F F') ∧ drawGo P T ops M K (i :: done) rest (E.set o.dst x) F')) := by
  have run : ∀ (_ : wantedE ops E o = true), (stepK P T o E.ev F fun v F' => bif isStill o.op || soloB ops M done i then drawGo P T ops M K (i :: done) rest (E.set o.dst v) F' else (Ext F F' ∧ drawGo P T ops M K (i :: done) rest (E.set o.dst v) F')) →
      (wantedE ops E o = true ∧ isStill o.op = true ∧ ∃ x, (∀ F', Ext F F' → opW P o E.ev F' (fun u F'' => u = x ∧ F'' = F')) ∧ (isVal o.op = true → ∀ F', opW P o E.ev F' (fun u F'' => u = x ∧ F'' = F')) ∧ drawGo P T ops M K (i :: done) rest (E.set o.dst x) F) ∨
      (wantedE ops E o = true ∧ isStill o.op = false ∧ opW P o E.ev F (fun x F' => (soloB ops M done i = true ∨ Ext F F') ∧ drawGo P T ops M K (i :: done) rest (E.set o.dst x) F')) := by
    intro hw hs
    cases hst : isStill o.op with
    | true =>
      obtain ⟨x, h1, h2, h3⟩ := step_still hT hst hs
      rw [hst, Bool.true_or, cond_true] at h1
      exact .inl ⟨hw, rfl, x, h2, h3, h1⟩
    | false =>
      refine .inr ⟨hw, rfl, opW_mono (stepK_sound hT hs) fun v F' hv => ?_⟩
      rw [hst, Bool.false_or] at hv
      cases hso : soloB ops M done i with
      | true => rw [hso, cond_true] at hv; exact ⟨.inl rfl, hv⟩
      | false => rw [hso, cond_false] at hv; exact ⟨.inr hv.1, hv.2⟩
  rw [drawGo_eq] at h
  unfold drawStep at h
  rw [ho] at h
  dsimp only at h
  cases hg : o.guard with
  | none =>
    rw [hg] at h
    exact .inr (run (by simp [wantedE, hg]) h)
  | some p =>
    obtain ⟨j, want⟩ := p
    rw [hg] at h
    dsimp only at h
    cases hy : yieldedE ops E j with
    | none =>
      rw [hy] at h
      exact .inl ⟨by simp [wantedE, hg, hy], h⟩
    | some b =>
      rw [hy] at h
      dsimp only at h
      by_cases hb : b = want
      · subst hb
        have h := h.yes (by cases b <;> rfl)
        rw [guardE_eq hy] at h
        exact .inr (run (by simp [wantedE, hg, hy]) h)
      · have hb' : b = !want := by cases b <;> cases want <;> simp_all
        subst hb'
        have h := h.no (by cases want <;> rfl)
        rw [guardE_eq hy] at h
        exact .inl ⟨by simp [wantedE, hg, hy], h⟩

/-- What the check says of one operation. -/
structure Chk (ops : Array Oper) (M : List Nat) (done : List Nat) (i : Nat) (o : Oper) : Prop where
  get : ops[i]? = some o
  ahead : ∀ e ∈ o.after, Region.binds .any e = true → e.on ∈ done
  moved : ∀ m ∈ done, ∀ p, ops[m]? = some p → isStill p.op = false → bit M i m = true
  apart : ∀ k p t, ops[k]? = some p → k ≠ i → p.dst = some t → (t ∈ o.looksAt ops → bit M i k = true ∨ bit M k i = true) ∧ (∀ d, o.dst = some d → d ≠ t)
  plain : ∀ cs b, o.op ≠ .select cs b
  new : i ∉ done
theorem check_cons {ops : Array Oper} {M done rest : List Nat} {i : Nat} (h : checkGo ops M done (i :: rest) = true) : (∃ o, Chk ops M done i o) ∧ checkGo ops M (i :: done) rest = true := by
  simp only [checkGo, Bool.and_eq_true] at h
  obtain ⟨⟨h, hn⟩, hr⟩ := h
  refine ⟨?_, hr⟩
  cases ho : ops[i]? with
  | none => rw [ho] at h; cases h
  | some o =>
    rw [ho] at h
    simp only [Bool.and_eq_true, List.all_eq_true] at h
    obtain ⟨⟨⟨h1, h2⟩, h3⟩, h4⟩ := h
    refine ⟨o, ho, fun e he hb => ?_, fun m hm p hp hs => ?_, fun k p t hp hk ht => ?_, fun cs b e => ?_, by simpa using hn⟩
    · have := h1 e (by simpa using he)
      rw [hb] at this
      simpa using this
    · have := h2 m hm
      rw [hp] at this
      simpa [hs] using this
    · have hlt : k < ops.size := (Array.getElem?_eq_some_iff.1 hp).1
      have := h3 k (by simpa using hlt)
      rw [beq_ne hk, Bool.false_or, hp] at this
      dsimp only at this
      rw [ht] at this
      simp only [Bool.and_eq_true, Bool.or_eq_true] at this
      obtain ⟨g1, g2⟩ := this
      refine ⟨fun hm => ?_, fun d hd => ?_⟩
      · rcases g1 with (g | g) | g
        · simp [readsOf, hm] at g
        · exact .inl g
        · exact .inr g
      · rw [hd] at g2
        intro e
        subst e
        simp [Nat.beq_refl] at g2
    · rw [e] at h4; cases h4
theorem check_moved {ops : Array Oper} {M : List Nat} : ∀ {l done : List Nat} {i : Nat}, checkGo ops M done l = true → i ∈ l → ∀ m ∈ done, ∀ p, ops[m]? = some p → isStill p.op = false → bit M i m = true := by
  intro l
  induction l with
  | nil => intro done i _ h; cases h
  | cons x l ih =>
    intro done i h hi m hm p hp hs
    obtain ⟨⟨o, hc⟩, hr⟩ := check_cons h
    rcases List.mem_cons.1 hi with rfl | hi
    · exact hc.moved m hm p hp hs
    · exact ih hr hi m (by simp [hm]) p hp hs
theorem WV_set {ops : Array Oper} {i : Nat} {o : Oper} (hget : ops[i]? = some o) (huniq : ∀ k p t, ops[k]? = some p → k ≠ i → p.dst = some t → ∀ d, o.dst = some d → d ≠ t) {env0 : Env} {S S' : Nat → Bool} {v v' : Nat → Value} (hS : ∀ k, k ≠ i → S' k = S k) (hi : S' i = true) (hv : ∀ k, k ≠ i → v' k = v k) :
    (WV ops env0 S v).set o.dst (v' i) = WV ops env0 S' v' := by
  funext t
  cases hd : o.dst with
  | none =>
    simp only [Env.set]
    refine WV_congr fun k hk => ?_
    obtain ⟨p, hp, hpt, _⟩ := writer_some hk
    have hki : k ≠ i := by rintro rfl; rw [hget] at hp; obtain rfl := Option.some.inj hp; rw [hd] at hpt; cases hpt
    exact ⟨(hS k hki).symm, fun _ => (hv k hki).symm⟩
  | some d =>
    simp only [Env.set]
    by_cases ht : t = d
    · subst ht
      rw [Nat.beq_refl, cond_true]
      have hw : writer ops t = some i := by
        cases hw : writer ops t with
        | none =>
          have := List.find?_eq_none.1 hw i (by simpa using (Array.getElem?_eq_some_iff.1 hget).1)
          simp [hget, hd] at this
        | some k =>
          obtain ⟨p, hp, hpt, _⟩ := writer_some hw
          by_cases hki : k = i
          · rw [hki]
          · exact absurd rfl (huniq k p t hp hki hpt t hd)
      unfold WV
      rw [hw]
      dsimp only
      rw [hi, cond_true]
    · rw [beq_ne ht, cond_false]
      refine WV_congr fun k hk => ?_
      obtain ⟨p, hp, hpt, _⟩ := writer_some hk
      have hki : k ≠ i := by
        rintro rfl
        rw [hget] at hp
        obtain rfl := Option.some.inj hp
        rw [hd] at hpt
        exact ht (Option.some.inj hpt).symm
      exact ⟨(hS k hki).symm, fun _ => (hv k hki).symm⟩
theorem agree {ops : Array Oper} {i : Nat} {o : Oper} (hc : ∀ k p t, ops[k]? = some p → k ≠ i → p.dst = some t → t ∈ o.looksAt ops → bit (maskGo ops.toList []) i k = true ∨ bit (maskGo ops.toList []) k i = true) {env0 : Env} {S S' : Nat → Bool} {v : Nat → Value}
    (h1 : ∀ k, bit (maskGo ops.toList []) i k = true → S k = true ∧ S' k = true) (h2 : ∀ k, bit (maskGo ops.toList []) k i = true → S k = false ∧ S' k = false) (h3 : S i = false ∧ S' i = false) {t : Nat} (ht : t ∈ o.looksAt ops) : WV ops env0 S v t = WV ops env0 S' v t := by
  refine WV_congr fun k hk => ⟨?_, fun _ => rfl⟩
  obtain ⟨p, hp, hpt, _⟩ := writer_some hk
  by_cases hki : k = i
  · rw [hki, h3.1, h3.2]
  · rcases hc k p t hp hki hpt ht with h | h
    · rw [(h1 k h).1, (h1 k h).2]
    · rw [(h2 k h).1, (h2 k h).2]
theorem ev_agree {ops : Array Oper} {o : Oper} {E E' : Env} (h : ∀ t ∈ o.looksAt ops, E t = E' t) : ∀ x ∈ o.op.operands, E.ev x = E'.ev x := by
  intro x hx
  cases x with
  | tmp t =>
    refine h t ?_
    unfold Oper.looksAt
    rw [List.mem_append]
    exact .inl (List.mem_filterMap.2 ⟨.tmp t, by simpa using hx, rfl⟩)
  | _ => rfl
theorem wantedE_agree {ops : Array Oper} {o : Oper} {E E' : Env} (h : ∀ t ∈ o.looksAt ops, E t = E' t) : wantedE ops E o = wantedE ops E' o := by
  unfold wantedE
  cases hg : o.guard with
  | none => rfl
  | some p =>
    obtain ⟨j, w⟩ := p
    dsimp only
    have : yieldedE ops E j = yieldedE ops E' j := by
      unfold yieldedE
      cases hd : (ops[j]?).bind (·.dst) with
      | none => rfl
      | some t =>
        dsimp only
        rw [h t (by unfold Oper.looksAt; rw [List.mem_append, hg]; dsimp only; rw [hd]; exact .inr (by simp))]
    rw [this]
theorem opW_congr {P : Program} {o : Oper} {ev ev' : Operand → Value} (hs : ∀ cs b, o.op ≠ .select cs b) (h : ∀ x ∈ o.op.operands, ev x = ev' x) {F : Heap} {K : Value → Heap → Prop} : opW P o ev F K ↔ opW P o ev' F K := by
  unfold opW
  rw [execOp_congr o hs h]

/-- An operation that is told and not yet done. -/
structure Pend (P : Program) (ops : Array Oper) (env0 : Env) (done : List Nat) (v : Nat → Value) (F : Heap) (i : Nat) (o : Oper) (D : Nat → Bool) : Prop where
  get : ops[i]? = some o
  still : isStill o.op = true
  plain : ∀ cs b, o.op ≠ .select cs b
  apart : ∀ k p t, ops[k]? = some p → k ≠ i → p.dst = some t → t ∈ o.looksAt ops → bit (maskGo ops.toList []) i k = true ∨ bit (maskGo ops.toList []) k i = true
  uniq : ∀ k p t, ops[k]? = some p → k ≠ i → p.dst = some t → ∀ d, o.dst = some d → d ≠ t
  anc : ∀ k, bit (maskGo ops.toList []) i k = true → D k = true
  des : ∀ k, D k = true → bit (maskGo ops.toList []) k i = false
  self : D i = false
  sub : ∀ k, D k = true → k ∈ done
  skip : wantedE ops (WV ops env0 D v) o = false → v i = undef
  run : wantedE ops (WV ops env0 D v) o = true → ∀ F', Ext F F' → opW P o (WV ops env0 D v).ev F' (fun u F'' => u = v i ∧ F'' = F')
  pure : wantedE ops (WV ops env0 D v) o = true → isVal o.op = true → ∀ F', opW P o (WV ops env0 D v).ev F' (fun u F'' => u = v i ∧ F'' = F')
/-- Told and done, side by side. -/
structure Inv (P : Program) (T : Tab) (ops : Array Oper) (K : Env → Heap → Prop) (env0 : Env) (m0 : Bool) (n : Nat) (w0 : World) (L : Nat → Bool) (a : Act) (w : World) (done rest : List Nat) (v : Nat → Value) (F : Heap) : Prop where
  check : checkGo ops (maskGo ops.toList []) done rest = true
  full : ∀ i, i < ops.size → i ∈ done ∨ i ∈ rest
  got : ∀ i ∈ done, ∃ o, ops[i]? = some o
  closed : Closed ops (fun k => done.contains k)
  sub : ∀ i, L i = true → i ∈ done
  lclosed : Closed ops L
  size : a.tmps.size = n
  held : Held m0 w0.heap.size a.defers w
  val : ∀ t, a.tmps.getD t undef = WV ops env0 L v t
  told : drawGo P T ops (maskGo ops.toList []) K done rest (WV ops env0 (fun k => done.contains k) v) F
  has : Has F w
  rst : Rest w0 w
  pend : ∀ i ∈ done, L i = false → ∃ o D, Pend P ops env0 done v F i o D
theorem Inv.ag {P : Program} {T : Tab} {ops : Array Oper} {K : Env → Heap → Prop} {env0 : Env} {m0 : Bool} {n : Nat} {w0 : World} {L : Nat → Bool} {a : Act} {w : World} {done rest : List Nat} {v : Nat → Value} {F : Heap} (h : Inv P T ops K env0 m0 n w0 L a w done rest v F) : Ag n (WV ops env0 L v) a := ⟨h.size, h.val⟩
theorem WV_new {ops : Array Oper} {env0 : Env} {S : Nat → Bool} {v v' : Nat → Value} {i : Nat} (hS : S i = false) (hv : ∀ k, k ≠ i → v' k = v k) : WV ops env0 S v' = WV ops env0 S v := by
  funext t
  refine WV_congr fun k _ => ⟨rfl, fun hk => hv k ?_⟩
  rintro rfl
  rw [hS] at hk; cases hk
/-- One more is told that only looks, or that isn't wanted: it is done later. -/
theorem Inv.push {P : Program} {T : Tab} {ops : Array Oper} {K : Env → Heap → Prop} {env0 : Env} {m0 : Bool} {n : Nat} {w0 : World} {L : Nat → Bool} {a : Act} {w : World} {done rest : List Nat} {v : Nat → Value} {F : Heap} {i : Nat} {o : Oper} (h : Inv P T ops K env0 m0 n w0 L a w done (i :: rest) v F)
    (hc : Chk ops (maskGo ops.toList []) done i o) (hst : isStill o.op = true) (x : Value)
    (hskip : wantedE ops (WV ops env0 (fun k => done.contains k) v) o = false → x = undef)
    (hrun : wantedE ops (WV ops env0 (fun k => done.contains k) v) o = true → (∀ F', Ext F F' → opW P o (WV ops env0 (fun k => done.contains k) v).ev F' (fun u F'' => u = x ∧ F'' = F')) ∧ (isVal o.op = true → ∀ F', opW P o (WV ops env0 (fun k => done.contains k) v).ev F' (fun u F'' => u = x ∧ F'' = F')))
    (ht : drawGo P T ops (maskGo ops.toList []) K (i :: done) rest ((WV ops env0 (fun k => done.contains k) v).set o.dst x) F) :
    Inv P T ops K env0 m0 n w0 L a w (i :: done) rest (fun k => if k = i then x else v k) F := by
  have hLi : L i = false := by
    cases hL : L i with
    | false => rfl
    | true => exact absurd (h.sub i hL) hc.new
  have hvv : ∀ k, k ≠ i → (fun k => if k = i then x else v k) k = v k := fun k hk => by simp [hk]
  have hDi : (fun k => done.contains k) i = false := by simpa using hc.new
  refine ⟨(check_cons h.check).2, fun k hk => ?_, fun k hk => ?_, fun k p hp hk e he hb => ?_, fun k hk => List.mem_cons_of_mem _ (h.sub k hk), h.lclosed, h.size, h.held, fun t => ?_, ?_, h.has, h.rst, fun k hk hL => ?_⟩
  · rcases h.full k hk with h1 | h1
    · exact .inl (List.mem_cons_of_mem _ h1)
    · rcases List.mem_cons.1 h1 with rfl | h1
      · exact .inl (by simp)
      · exact .inr h1
  · rcases List.mem_cons.1 hk with rfl | hk
    · exact ⟨o, hc.get⟩
    · exact h.got k hk
  · have hk : k ∈ i :: done := by simpa using hk
    have : e.on ∈ i :: done := by
      rcases List.mem_cons.1 hk with rfl | hk
      · rw [hc.get] at hp; obtain rfl := Option.some.inj hp
        exact List.mem_cons_of_mem _ (hc.ahead e he hb)
      · have := h.closed k p hp (by simpa using hk) e he hb
        exact List.mem_cons_of_mem _ (by simpa using this)
    simpa using this
  · rw [h.val t, WV_new hLi hvv]
  · have := WV_set (v' := fun k => if k = i then x else v k) hc.get (fun k p t hp hk ht => (hc.apart k p t hp hk ht).2) (env0 := env0) (S := fun k => done.contains k) (S' := fun k => (i :: done).contains k) (v := v) (fun k hk => by simp [hk]) (by simp) hvv
    simp only [if_true] at this
    rw [← this]
    exact ht
  · rcases List.mem_cons.1 hk with rfl | hk
    · refine ⟨o, fun k => done.contains k, hc.get, hst, hc.plain, fun k' p t hp hk' hpt ht' => (hc.apart k' p t hp hk' hpt).1 ht', fun k' p t hp hk' hpt => (hc.apart k' p t hp hk' hpt).2, fun k' hk' => ?_, fun k' hk' => ?_, hDi, fun k' hk' => List.mem_cons_of_mem _ (by simpa using hk'), ?_, ?_, ?_⟩
      · exact mask_sound hk' h.closed (fun p hp e he hb => by rw [hc.get] at hp; obtain rfl := Option.some.inj hp; simpa using hc.ahead e he hb)
      · cases hb : bit (maskGo ops.toList []) k' k with
        | false => rfl
        | true =>
          have := mask_sound hb h.closed (fun p hp e he hb => h.closed k' p hp hk' e he hb)
          exact absurd (this.symm.trans hDi) (by decide)
      · rw [WV_new hDi hvv]; intro hw; simp [hskip hw]
      · rw [WV_new hDi hvv]; intro hw F' hF; exact opW_mono ((hrun hw).1 F' hF) fun u F'' ⟨e1, e2⟩ => ⟨e1.trans (if_pos rfl).symm, e2⟩
      · rw [WV_new hDi hvv]; intro hw hV F'; exact opW_mono ((hrun hw).2 hV F') fun u F'' ⟨e1, e2⟩ => ⟨e1.trans (if_pos rfl).symm, e2⟩
    · obtain ⟨p, D, hp⟩ := h.pend k hk hL
      have hki : k ≠ i := fun e => hc.new (e ▸ hk)
      have hDi' : D i = false := by
        cases hD : D i with
        | false => rfl
        | true => exact absurd (hp.sub i hD) hc.new
      refine ⟨p, D, hp.get, hp.still, hp.plain, hp.apart, hp.uniq, hp.anc, hp.des, hp.self, fun k' hk' => List.mem_cons_of_mem _ (hp.sub k' hk'), ?_, ?_, ?_⟩
      · rw [WV_new hDi' hvv]; intro hw; simp only [hki, if_false]; exact hp.skip hw
      · rw [WV_new hDi' hvv]; intro hw F' hF; simp only [hki, if_false]; exact hp.run hw F' hF
      · rw [WV_new hDi' hvv]; intro hw hV F'; simp only [hki, if_false]; exact hp.pure hw hV F'
/-- What is ready, and not yet told, is told next. -/
theorem Inv.reach {P : Program} {T : Tab} (hT : TabOk P T) {ops : Array Oper} {K : Env → Heap → Prop} {env0 : Env} {m0 : Bool} {n : Nat} {w0 : World} {L : Nat → Bool} {a : Act} {w : World} {i : Nat} (hi : Ahead ops L i) : ∀ (rest : List Nat) {done : List Nat} {v : Nat → Value} {F : Heap}, Inv P T ops K env0 m0 n w0 L a w done rest v F → i ∈ rest →
    ∃ done' rest' v', Inv P T ops K env0 m0 n w0 L a w done' (i :: rest') v' F := by
  intro rest
  induction rest with
  | nil => intro done v F _ h; cases h
  | cons i0 rest ih =>
    intro done v F h hmem
    by_cases he : i0 = i
    · subst he; exact ⟨done, rest, v, h⟩
    · have hir : i ∈ rest := by
        rcases List.mem_cons.1 hmem with rfl | hm
        · exact absurd rfl he
        · exact hm
      obtain ⟨⟨o, hc⟩, hr⟩ := check_cons h.check
      have hst : isStill o.op = true := by
        cases hs : isStill o.op with
        | true => rfl
        | false =>
          have hb := check_moved hr hir i0 (by simp) o hc.get hs
          exact absurd (h.sub i0 (mask_sound hb h.lclosed hi)) hc.new
      rcases drawGo_cons hT hc.get h.told with ⟨hw, ht⟩ | ⟨hw, _, x, h1, h2, ht⟩ | ⟨_, hs, _⟩
      · exact ih (h.push hc hst undef (fun _ => rfl) (fun e => by rw [hw] at e; cases e) ht) hir
      · exact ih (h.push hc hst x (fun e => by rw [hw] at e; cases e) (fun _ => ⟨h1, h2⟩) ht) hir
      · rw [hst] at hs; cases hs

theorem ready_of {ops : Array Oper} {listed : Array Bool} {i : Nat} (h : i ∈ Region.ready .any ops listed) : i < ops.size ∧ listed.getD i true = false ∧ ∃ o, ops[i]? = some o ∧ ∀ e ∈ o.after, Region.binds .any e = true → listed.getD e.on false = true := by
  unfold Region.ready at h
  rw [List.mem_filter, List.mem_range] at h
  obtain ⟨h1, h2⟩ := h
  rw [Bool.and_eq_true] at h2
  refine ⟨h1, by simpa using h2.1, ?_⟩
  cases ho : ops[i]? with
  | none => rw [ho] at h2; simp at h2
  | some o =>
    rw [ho] at h2
    refine ⟨o, rfl, fun e he hb => ?_⟩
    have := h2.2
    simp only [Option.map_some, Option.getD_some, Array.all_eq_true_iff_forall_mem] at this
    have := this e he
    rw [hb] at this
    simpa using this
theorem not_ready {ops : Array Oper} {listed : Array Bool} (h : Region.ready .any ops listed = []) {i : Nat} {o : Oper} (ho : ops[i]? = some o) (hl : listed.getD i true = false) (ha : ∀ e ∈ o.after, Region.binds .any e = true → listed.getD e.on false = true) : False := by
  have hm : i ∈ Region.ready .any ops listed := by
    unfold Region.ready
    rw [List.mem_filter, List.mem_range]
    refine ⟨(Array.getElem?_eq_some_iff.1 ho).1, ?_⟩
    rw [hl, ho, Bool.not_false, Bool.true_and]
    simp only [Option.map_some, Option.getD_some, Array.all_eq_true_iff_forall_mem]
    intro e he
    cases hb : Region.binds .any e with
    | false => rfl
    | true => simpa using ha e he hb
  rw [h] at hm
  cases hm
/-- All that is ready is done: all is done. -/
theorem all_done {ops : Array Oper} {M : List Nat} {listed : Array Bool} (hsz : listed.size = ops.size) (h : Region.ready .any ops listed = []) : ∀ (l done : List Nat), checkGo ops M done l = true → (∀ i ∈ done, listed.getD i false = true) → ∀ i ∈ l, listed.getD i false = true := by
  intro l
  induction l with
  | nil => intro done _ _ i hi; cases hi
  | cons x l ih =>
    intro done hc hd i hi
    obtain ⟨⟨o, hk⟩, hr⟩ := check_cons hc
    have hx : listed.getD x false = true := by
      cases hl : listed.getD x false with
      | true => rfl
      | false =>
        refine (not_ready h hk.get ?_ (fun e he hb => hd _ (hk.ahead e he hb))).elim
        have hlt : x < listed.size := by rw [hsz]; exact (Array.getElem?_eq_some_iff.1 hk.get).1
        simpa [Array.getD_eq_getD_getElem?, hlt] using hl
    rcases List.mem_cons.1 hi with rfl | hi
    · exact hx
    · refine ih (x :: done) hr (fun k hk' => ?_) i hi
      rcases List.mem_cons.1 hk' with rfl | hk'
      · exact hx
      · exact hd k hk'
theorem count_set {listed : Array Bool} {n i : Nat} (hi : i < n) (h0 : listed.getD i false = false) (hsz : listed.size = n) :
    ((List.range n).filter fun k => !(listed.setIfInBounds i true).getD k false).length < ((List.range n).filter fun k => !listed.getD k false).length := by
  have key : ∀ l : List Nat, i ∈ l → (l.filter fun k => !(listed.setIfInBounds i true).getD k false).length < (l.filter fun k => !listed.getD k false).length := by
    have le : ∀ l : List Nat, (l.filter fun k => !(listed.setIfInBounds i true).getD k false).length ≤ (l.filter fun k => !listed.getD k false).length := by
      intro l
      induction l with
      | nil => exact Nat.le_refl _
      | cons x l ih =>
        by_cases hx : x = i
        · subst hx
          have h1 : (listed.setIfInBounds x true).getD x false = true := by simp [Array.getD_eq_getD_getElem?, hsz, hi]
          rw [List.filter_cons, List.filter_cons, h1, h0]
          simp only [Bool.not_true, Bool.not_false, Bool.false_eq_true, if_false, if_true, List.length_cons]
          omega
        · have h1 : (listed.setIfInBounds i true).getD x false = listed.getD x false := by simp [Array.getD_eq_getD_getElem?, Ne.symm hx]
          rw [List.filter_cons, List.filter_cons, h1]
          split
          · simp only [List.length_cons]; omega
          · exact ih
    intro l
    induction l with
    | nil => intro h; cases h
    | cons x l ih =>
      intro hm
      by_cases hx : x = i
      · subst hx
        have h1 : (listed.setIfInBounds x true).getD x false = true := by simp [Array.getD_eq_getD_getElem?, hsz, hi]
        rw [List.filter_cons, List.filter_cons, h1, h0]
        simp only [Bool.not_true, Bool.not_false, Bool.false_eq_true, if_false, if_true, List.length_cons]
        have := le l
        omega
      · have hl : i ∈ l := by
          rcases List.mem_cons.1 hm with rfl | hm
          · exact absurd rfl hx
          · exact hm
        have h1 : (listed.setIfInBounds i true).getD x false = listed.getD x false := by simp [Array.getD_eq_getD_getElem?, Ne.symm hx]
        rw [List.filter_cons, List.filter_cons, h1]
        split
        · simp only [List.length_cons]; have := ih hl; omega
        · exact ih hl
  exact key _ (by simpa using hi)

/-- What is told and pending is done. -/
theorem Inv.exec {P : Program} {T : Tab} {ops : Array Oper} {K : Env → Heap → Prop} {env0 : Env} {m0 : Bool} {n : Nat} {w0 : World} {L L' : Nat → Bool} {a : Act} {w w' : World} {done rest : List Nat} {v : Nat → Value} {F : Heap} {i : Nat} {o : Oper} {D : Nat → Bool} (h : Inv P T ops K env0 m0 n w0 L a w done rest v F)
    (hi : i ∈ done) (hp : Pend P ops env0 done v F i o D) (ha : Ahead ops L i) (hd : dstOk n o = true) (hL : ∀ k, k ≠ i → L' k = L k) (hLi : L' i = true) (hw : Has F w') (hrw : Rest w w') : Inv P T ops K env0 m0 n w0 L' (a.put o.dst (v i)) w' done rest v F := by
  have hag := h.ag.put hd (v i)
  have hr := h.rst.trans hrw
  have hh := h.held.mono hrw
  have hL1 : ∀ k, L k = true → L' k = true := fun k hk => by
    by_cases e : k = i
    · rw [e]; exact hLi
    · rw [hL k e]; exact hk
  have hL2 : ∀ k, L' k = true → k = i ∨ L k = true := fun k hk => by
    by_cases e : k = i
    · exact .inl e
    · rw [hL k e] at hk; exact .inr hk
  refine ⟨h.check, h.full, h.got, h.closed, fun k hk => ?_, fun k p hp' hk e he hb => ?_, hag.size, by rw [put_defers]; exact hh, fun t => ?_, h.told, hw, hr, fun k hk hLk => ?_⟩
  · rcases hL2 k hk with rfl | hk
    · exact hi
    · exact h.sub k hk
  · rcases hL2 k hk with rfl | hk
    · exact hL1 _ (ha p hp' e he hb)
    · exact hL1 _ (h.lclosed k p hp' hk e he hb)
  · rw [hag.tmp t, WV_set (v' := v) hp.get hp.uniq hL hLi (fun _ _ => rfl)]
  · refine h.pend k hk ?_
    cases e : L k with
    | false => rfl
    | true => rw [hL1 k e] at hLk; cases hLk
theorem Inv.move {P : Program} {T : Tab} {ops : Array Oper} {K : Env → Heap → Prop} {env0 : Env} {m0 : Bool} {n : Nat} {w0 : World} {L L' : Nat → Bool} {a : Act} {w w' : World} {done rest : List Nat} {v : Nat → Value} {F F' : Heap} {i : Nat} {o : Oper} (h : Inv P T ops K env0 m0 n w0 L a w done (i :: rest) v F)
    (hc : Chk ops (maskGo ops.toList []) done i o) (ha : Ahead ops L i) (hd : dstOk n o = true) (hL : ∀ k, k ≠ i → L' k = L k) (hLi : L' i = true) (x : Value) (hw : Has F' w') (hrw : Rest w w')
    (ht : drawGo P T ops (maskGo ops.toList []) K (i :: done) rest ((WV ops env0 (fun k => done.contains k) v).set o.dst x) F')
    (hkeep : (∀ k ∈ done, L k = false → ∀ p, ops[k]? = some p → isStill p.op = true → isVal p.op = true) ∨ Ext F F') :
    Inv P T ops K env0 m0 n w0 L' (a.put o.dst x) w' (i :: done) rest (fun k => if k = i then x else v k) F' := by
  have hag := h.ag.put hd x
  have hr := h.rst.trans hrw
  have hh := h.held.mono hrw
  have hL0 : L i = false := by
    cases e : L i with
    | false => rfl
    | true => exact absurd (h.sub i e) hc.new
  have hvv : ∀ k, k ≠ i → (fun k => if k = i then x else v k) k = v k := fun k hk => by simp [hk]
  have huniq : ∀ k p t, ops[k]? = some p → k ≠ i → p.dst = some t → ∀ d, o.dst = some d → d ≠ t := fun k p t hp hk ht => (hc.apart k p t hp hk ht).2
  have hL1 : ∀ k, L k = true → L' k = true := fun k hk => by
    by_cases e : k = i
    · rw [e]; exact hLi
    · rw [hL k e]; exact hk
  have hL2 : ∀ k, L' k = true → k = i ∨ L k = true := fun k hk => by
    by_cases e : k = i
    · exact .inl e
    · rw [hL k e] at hk; exact .inr hk
  refine ⟨(check_cons h.check).2, fun k hk => ?_, fun k hk => ?_, fun k p hp hk e he hb => ?_, fun k hk => ?_, fun k p hp' hk e he hb => ?_, hag.size, by rw [put_defers]; exact hh, fun t => ?_, ?_, hw, hr, fun k hk hLk => ?_⟩
  · rcases h.full k hk with h1 | h1
    · exact .inl (List.mem_cons_of_mem _ h1)
    · rcases List.mem_cons.1 h1 with rfl | h1
      · exact .inl (by simp)
      · exact .inr h1
  · rcases List.mem_cons.1 hk with rfl | hk
    · exact ⟨o, hc.get⟩
    · exact h.got k hk
  · have hk : k ∈ i :: done := by simpa using hk
    have : e.on ∈ i :: done := by
      rcases List.mem_cons.1 hk with rfl | hk
      · rw [hc.get] at hp; obtain rfl := Option.some.inj hp
        exact List.mem_cons_of_mem _ (hc.ahead e he hb)
      · have := h.closed k p hp (by simpa using hk) e he hb
        exact List.mem_cons_of_mem _ (by simpa using this)
    simpa using this
  · rcases hL2 k hk with rfl | hk
    · simp
    · exact List.mem_cons_of_mem _ (h.sub k hk)
  · rcases hL2 k hk with rfl | hk
    · exact hL1 _ (ha p hp' e he hb)
    · exact hL1 _ (h.lclosed k p hp' hk e he hb)
  · have := WV_set (v' := fun k => if k = i then x else v k) hc.get huniq (env0 := env0) (S := L) (S' := L') (v := v) hL hLi hvv
    simp only [if_true] at this
    rw [hag.tmp t, this]
  · have := WV_set (v' := fun k => if k = i then x else v k) hc.get huniq (env0 := env0) (S := fun k => done.contains k) (S' := fun k => (i :: done).contains k) (v := v) (fun k hk => by simp [hk]) (by simp) hvv
    simp only [if_true] at this
    rw [← this]
    exact ht
  · have hki : k ≠ i := by rintro rfl; rw [hLi] at hLk; cases hLk
    have hk : k ∈ done := by
      rcases List.mem_cons.1 hk with rfl | hk
      · exact absurd rfl hki
      · exact hk
    rw [hL k hki] at hLk
    obtain ⟨p, D, hp⟩ := h.pend k hk hLk
    have hDi' : D i = false := by
      cases hD : D i with
      | false => rfl
      | true => exact absurd (hp.sub i hD) hc.new
    refine ⟨p, D, hp.get, hp.still, hp.plain, hp.apart, hp.uniq, hp.anc, hp.des, hp.self, fun k' hk' => List.mem_cons_of_mem _ (hp.sub k' hk'), ?_, ?_, ?_⟩
    · rw [WV_new hDi' hvv]; intro hw; simp only [hki, if_false]; exact hp.skip hw
    · rw [WV_new hDi' hvv]
      intro hw G hG
      simp only [hki, if_false]
      rcases hkeep with hv | hF
      · exact hp.pure hw (hv k hk hLk p hp.get hp.still) G
      · exact hp.run hw G (hF.trans hG)
    · rw [WV_new hDi' hvv]; intro hw hV F'; simp only [hki, if_false]; exact hp.pure hw hV F'
theorem any_of_inv {P : Program} {T : Tab} (hT : TabOk P T) {ops : Array Oper} {σ : List Nat} (hσ : drawOk ops σ = true) {K : Env → Heap → Prop} {Q : Exit → Env → Heap → Prop} (hQ : ∀ env F, K env F → Q .normal env F) {env0 : Env} {m0 : Bool} {n : Nat} {w0 : World} (hd : ∀ o ∈ ops.toList, dstOk n o = true) :
    ∀ (fuel : Nat) (listed : Array Bool) (a : Act) (w : World) (done rest : List Nat) (v : Nat → Value) (F : Heap), Inv P T ops K env0 m0 n w0 (fun i => listed.getD i false) a w done rest v F → listed.size = ops.size →
      ((List.range ops.size).filter fun k => !listed.getD k false).length ≤ fuel → wpAny P .any ops (up m0 n w0 Q) fuel listed a w := by
  unfold drawOk at hσ
  rw [Bool.and_eq_true] at hσ
  obtain ⟨hchk, hall⟩ := hσ
  have hall : ∀ i, i < ops.size → i ∈ σ := fun i hi => by
    have := List.all_eq_true.1 hall i (by simpa using hi)
    simpa using this
  have fin : ∀ (listed : Array Bool) (a : Act) (w : World) (done rest : List Nat) (v : Nat → Value) (F : Heap), Inv P T ops K env0 m0 n w0 (fun i => listed.getD i false) a w done rest v F → listed.size = ops.size → Region.ready .any ops listed = [] → up m0 n w0 Q .normal a w := by
    intro listed a w done rest v F h hsz hr
    have hl : ∀ i, i < ops.size → listed.getD i false = true := fun i hi => all_done hsz hr σ [] hchk (fun _ h => by cases h) i (hall i hi)
    have hrest : rest = [] := by
      cases rest with
      | nil => rfl
      | cons x rest =>
        obtain ⟨⟨o, hc⟩, _⟩ := check_cons h.check
        exact absurd (h.sub x (hl x (Array.getElem?_eq_some_iff.1 hc.get).1)) hc.new
    subst hrest
    have ht := h.told
    change K _ _ at ht
    refine ⟨_, F, h.ag, h.held, h.has, h.rst, hQ _ _ ?_⟩
    have : WV ops env0 (fun i => listed.getD i false) v = WV ops env0 (fun k => done.contains k) v := by
      funext t
      refine WV_congr fun k hk => ⟨?_, fun _ => rfl⟩
      obtain ⟨_, _, _, hlt⟩ := writer_some hk
      have h1 := hl k hlt
      have h2 := h.sub k h1
      show listed.getD k false = done.contains k
      rw [h1]
      exact (by simpa using h2 : done.contains k = true).symm
    rw [this]
    exact ht
  intro fuel
  induction fuel with
  | zero =>
    intro listed a w done rest v F h hsz hc
    have hl : ∀ i, i < ops.size → listed.getD i false = true := fun i hi => by
      cases e : listed.getD i false with
      | true => rfl
      | false =>
        have : i ∈ (List.range ops.size).filter fun k => !listed.getD k false := by rw [List.mem_filter]; exact ⟨by simpa using hi, by rw [e]; rfl⟩
        rw [List.eq_nil_of_length_eq_zero (Nat.le_zero.1 hc)] at this
        cases this
    have hr : Region.ready .any ops listed = [] := by
      cases hr : Region.ready .any ops listed with
      | nil => rfl
      | cons x l =>
        obtain ⟨h1, h2, _⟩ := ready_of (by rw [hr]; simp : x ∈ Region.ready .any ops listed)
        have h3 := hl x h1
        rw [Array.getD_eq_getD_getElem?] at h2 h3
        rw [Array.getElem?_eq_getElem (by omega)] at h2 h3
        simp only [Option.getD_some] at h2 h3
        rw [h2] at h3; cases h3
    exact ⟨hr, fin listed a w done rest v F h hsz hr⟩
  | succ fuel ih =>
    intro listed a w done rest v F h hsz hcount
    refine ⟨fun hr => fin listed a w done rest v F h hsz hr, fun i hi => ?_⟩
    obtain ⟨hlt, hl, o, ho, hah⟩ := ready_of hi
    have hLi : listed.getD i false = false := by
      rw [Array.getD_eq_getD_getElem?, Array.getElem?_eq_getElem (by omega)] at hl ⊢
      exact hl
    have hahead : Ahead ops (fun k => listed.getD k false) i := fun p hp e he hb => by rw [ho] at hp; obtain rfl := Option.some.inj hp; exact hah e he hb
    have hdo : dstOk n o = true := hd o (List.mem_of_getElem? (by simpa using ho))
    have hL1 : ∀ k, k ≠ i → (listed.setIfInBounds i true).getD k false = listed.getD k false := fun k hk => by simp [Array.getD_eq_getD_getElem?, Ne.symm hk]
    have hL2 : (listed.setIfInBounds i true).getD i false = true := by simp [Array.getD_eq_getD_getElem?, hsz, hlt]
    have hcnt : ((List.range ops.size).filter fun k => !(listed.setIfInBounds i true).getD k false).length ≤ fuel := by
      have := count_set hlt hLi hsz
      omega
    -- an operation that is told: it is done
    have old : ∀ (done rest : List Nat) (v : Nat → Value) (F : Heap), Inv P T ops K env0 m0 n w0 (fun i => listed.getD i false) a w done rest v F → i ∈ done → wpOp P ops (up m0 n w0 Q) i (wpAny P .any ops (up m0 n w0 Q) fuel (listed.setIfInBounds i true)) a w := by
      intro done rest v F h hid
      obtain ⟨o', D, hp⟩ := h.pend i hid hLi
      have : o' = o := by have := hp.get; rw [ho] at this; exact (Option.some.inj this).symm
      subst this
      have hagr : ∀ t ∈ o'.looksAt ops, WV ops env0 (fun k => listed.getD k false) v t = WV ops env0 D v t := fun t ht => by
        refine agree hp.apart (fun k hk => ⟨mask_sound hk h.lclosed hahead, hp.anc k hk⟩) (fun k hk => ⟨?_, ?_⟩) ⟨hLi, hp.self⟩ ht
        · cases e : listed.getD k false with
          | false => rfl
          | true =>
            have := mask_sound hk h.lclosed (fun p hp' e' he hb => h.lclosed k p hp' e e' he hb)
            rw [hLi] at this; cases this
        · cases e : D k with
          | false => rfl
          | true => have := hp.des k e; rw [hk] at this; cases this
      unfold wpOp
      rw [ho]
      dsimp only
      rw [wanted_of h.ag, wantedE_agree hagr]
      cases hw : wantedE ops (WV ops env0 D v) o' with
      | false =>
        rw [if_neg (by decide), ← hp.skip hw]
        exact ih _ _ _ done rest v F (h.exec hid hp hahead hdo hL1 hL2 h.has (Rest.refl _)) (by simpa using hsz) hcnt
      | true =>
        rw [if_pos rfl]
        have hrun := (opW_congr hp.plain (ev_agree hagr)).2 (hp.run hw F (Ext.refl F))
        refine .inl (opW_sound hrun h.ag h.has fun u F' w' hu hF' hr' => ?_)
        obtain ⟨rfl, rfl⟩ := hu
        exact ih _ _ _ done rest v F' (h.exec hid hp hahead hdo hL1 hL2 hF' hr') (by simpa using hsz) hcnt
    rcases h.full i hlt with hid | hir
    · exact old done rest v F h hid
    · obtain ⟨done, rest, v, h⟩ := h.reach hT hahead rest hir
      obtain ⟨⟨o', hc⟩, hr⟩ := check_cons h.check
      have : o' = o := by have := hc.get; rw [ho] at this; exact (Option.some.inj this).symm
      subst this
      have hagr : ∀ t ∈ o'.looksAt ops, WV ops env0 (fun k => listed.getD k false) v t = WV ops env0 (fun k => done.contains k) v t := fun t ht => by
        refine agree (fun k p t hp hk hpt ht => (hc.apart k p t hp hk hpt).1 ht) (fun k hk => ⟨mask_sound hk h.lclosed hahead, ?_⟩) (fun k hk => ⟨?_, ?_⟩) ⟨hLi, by simpa using hc.new⟩ ht
        · exact mask_sound hk h.closed (fun p hp e he hb => by rw [hc.get] at hp; obtain rfl := Option.some.inj hp; simpa using hc.ahead e he hb)
        · cases e : listed.getD k false with
          | false => rfl
          | true =>
            have := mask_sound hk h.lclosed (fun p hp' e' he hb => h.lclosed k p hp' e e' he hb)
            rw [hLi] at this; cases this
        · cases e : done.contains k with
          | false => rfl
          | true =>
            have : done.contains i = true := mask_sound hk h.closed (fun p hp' e' he hb => h.closed k p hp' e e' he hb)
            exact absurd (by simpa using this) hc.new
      rcases drawGo_cons hT hc.get h.told with ⟨hw, ht⟩ | ⟨hw, hst, x, h1, h2, ht⟩ | ⟨hw, hst, hrun⟩
      · unfold wpOp
        rw [ho]
        dsimp only
        rw [wanted_of h.ag, wantedE_agree hagr, hw, if_neg (by decide)]
        exact ih _ _ _ _ _ _ F (h.move hc hahead hdo hL1 hL2 undef h.has (Rest.refl _) ht (.inr (Ext.refl F))) (by simpa using hsz) hcnt
      · exact old _ _ _ _ (h.push hc hst x (fun e => by rw [hw] at e; cases e) (fun _ => ⟨h1, h2⟩) ht) (by simp)
      · unfold wpOp
        rw [ho]
        dsimp only
        rw [wanted_of h.ag, wantedE_agree hagr, hw, if_pos rfl]
        have hrun := (opW_congr hc.plain (ev_agree hagr)).2 hrun
        refine .inl (opW_sound hrun h.ag h.has fun x F' w' hu hF' hr' => ?_)
        obtain ⟨hk, ht⟩ := hu
        refine ih _ _ _ _ _ _ F' (h.move hc hahead hdo hL1 hL2 x hF' hr' ht ?_) (by simpa using hsz) hcnt
        rcases hk with hs | hF
        · refine .inl fun k hk hLk p hp hst' => ?_
          have := List.all_eq_true.1 hs k hk
          rw [hp] at this
          simp only [Bool.or_eq_true] at this
          rcases this with (g | g) | g
          · exact g
          · rw [hst'] at g; cases g
          · have := mask_sound g h.lclosed hahead
            rw [hLk] at this; cases this
        · exact .inr hF
/-- A region that draws its order, told in one order. -/
theorem draw_walk {P : Program} {T : Tab} (hT : TabOk P T) (hm : P.follows .mixedOrders = true) {ops : Array Oper} (σ : List Nat) (hok : drawOk ops σ = true) {K : Env → Heap → Prop} {env : Env} {F : Heap}
    (h : drawGo P T ops (maskGo ops.toList []) K [] σ env F) : DrawK P T ops K env F := by
  refine ⟨fun m0 n a w w0 id Q hd hQ ha hh hw hr => ?_⟩
  refine wp_region_any hm ?_
  have hall := hok
  unfold drawOk at hall
  rw [Bool.and_eq_true] at hall
  have h0 : ∀ k, (Array.replicate ops.size false).getD k false = false := fun k => by
    rw [Array.getD_eq_getD_getElem?, Array.getElem?_replicate]
    split <;> rfl
  have hWV : ∀ S : Nat → Bool, (∀ k, S k = false) → WV ops env S (fun _ => undef) = env := fun S hS => by
    funext t
    unfold WV
    cases writer ops t with
    | none => rfl
    | some k => dsimp only; rw [hS k]; rfl
  refine any_of_inv hT hok hQ hd ops.size _ a _ [] σ (fun _ => undef) F (env0 := env) ⟨hall.1, fun i hi => .inr ?_, fun _ h => by (cases h), fun k o _ hk => by simp at hk, fun i hi => ?_, fun k o _ hk => ?_, ha.size, hh.mono ⟨rfl, rfl, rfl, Nat.le_refl _, fun _ h => h⟩, fun t => ?_, ?_, hw.of_heap rfl, hr.trans ⟨rfl, rfl, rfl, Nat.le_refl _, fun _ h => h⟩, fun _ h => by (cases h)⟩ (by simp) ?_
  · have := List.all_eq_true.1 hall.2 i (by simpa using hi)
    simpa using this
  · rw [h0 i] at hi; cases hi
  · rw [h0 k] at hk; cases hk
  · rw [ha.tmp t, hWV _ h0]
  · rw [hWV _ (fun k => by simp)]; exact h
  · exact Nat.le_trans (List.length_filter_le _ _) (by simp)
end Go.Al

/- The logic of a known part of memory, 6: a function's text told step by step; where it parts, loops, calls or draws its order, the teller stops. It holds for every program. -/
import Derived.Test.YtlkdbmoocajjlaaAlConv
namespace Go.Al
open Go

theorem opsW_mono {P : Program} {all : Array Oper} {K K' : Env → Heap → Prop} (hk : ∀ env F, K env F → K' env F) : ∀ (l : List Oper) (env : Env) (F : Heap), opsW P all K l env F → opsW P all K' l env F := by
  intro l
  induction l with
  | nil => intro env F h; exact hk _ _ h
  | cons o rest ih =>
    intro env F h
    simp only [opsW] at h ⊢
    split
    · next hg => simp only [hg] at h; exact opV_mono h fun v F' => ih _ _
    · next j want hg =>
      simp only [hg] at h
      split
      · next b hy =>
        simp only [hy] at h
        exact ⟨fun e => opV_mono (h.1 e) fun v F' => ih _ _, fun e => ih _ _ (h.2 e)⟩
      · next hy => simp only [hy] at h; exact ih _ _ h
theorem codeW_mono {P : Program} : ∀ (c : Code) {Q Q' : Exit → Env → Heap → Prop}, (∀ e env F, Q e env F → Q' e env F) → ∀ env F, codeW P c Q env F → codeW P c Q' env F := by
  intro c
  induction c with
  | skip => intro Q Q' hq env F h; exact hq _ _ _ h
  | label l => intro Q Q' hq env F h; exact hq _ _ _ h
  | exit l => intro Q Q' hq env F h; exact hq _ _ _ h
  | ret => intro Q Q' hq env F h; exact hq _ _ _ h
  | goto l => intro Q Q' hq env F h; exact h.elim
  | refuse l => intro Q Q' hq env F h; exact h.elim
  | rangeFunc f ps x y =>
    intro Q Q' hq env F h n a w w0 h1 h2 h3 h4 h5
    exact wp_mono (h n a w w0 h1 h2 h3 h4 h5) fun e a w ⟨env, F, g1, g2, g3, g4, g5⟩ => ⟨env, F, g1, g2, g3, g4, hq _ _ _ g5⟩
  | region id ops draw =>
    intro Q Q' hq env F h
    simp only [codeW] at h ⊢
    cases draw with
    | true =>
      intro m n a w w0 id R h1 h2 h3 h4 h5 h6
      exact h m n a w w0 id R h1 (fun env F hq' => h2 env F (hq _ _ _ hq')) h3 h4 h5 h6
    | false => exact opsW_mono (fun env F => hq _ env F) _ _ _ h
  | seq x y ihx ihy =>
    intro Q Q' hq env F h
    refine ihx (fun e env F h => ?_) env F h
    cases e <;> first | exact ihy hq env F h | exact hq _ _ _ h
  | cond c x y ihx ihy =>
    intro Q Q' hq env F h
    simp only [codeW] at h ⊢
    split
    · next t ht => simp only [ht] at h; exact ⟨fun e => ihx hq _ _ (h.1 e), fun e => ihy hq _ _ (h.2 e)⟩
    · next hn => split at h <;> first | exact h.elim | (rename_i t ht; exact (hn t ht).elim)
  | block id c ih =>
    intro Q Q' hq env F h
    refine ih (fun e env F h => ?_) env F h
    cases e <;> first
      | exact hq _ _ _ h
      | (rename_i i; simp only [blockE] at h ⊢; cases hb : Nat.beq i id <;> rw [hb] at h <;> simp only [cond_true, cond_false] at h ⊢ <;> exact hq _ _ _ h)
  | scope c ih =>
    intro Q Q' hq env F h
    refine ih (fun e env F h => ?_) env F h
    cases e <;> first | exact h | exact hq _ _ _ h
  | loop c ih =>
    intro Q Q' hq env F h
    obtain ⟨I, m, h0, hr⟩ := h
    refine ⟨I, m, h0, fun m env F hI => ih (fun e env F h => ?_) env F (hr m env F hI)⟩
    cases e <;> first | exact h | exact hq _ _ _ h

/-- The temporary that a test read, written out. -/
def condE (c : Operand) (b : Bool) (env : Env) : Env :=
  match c with
  | .tmp t => env.set (some t) (.bool b)
  | _ => env
theorem condE_eq {c : Operand} {b : Bool} {env : Env} (h : env.ev c = .bool b) : condE c b env = env := by
  cases c <;> try rfl
  funext t
  rename_i s
  simp only [condE, Env.set]
  cases hb : Nat.beq t s with
  | false => rfl
  | true => rw [cond_true, ← h, Nat.eq_of_beq_eq_true hb]; rfl
def guardE (all : Array Oper) (j : Nat) (b : Bool) (env : Env) : Env :=
  match (all[j]?).bind (·.dst) with
  | some t => env.set (some t) (.bool b)
  | none => env
theorem guardE_eq {all : Array Oper} {j : Nat} {b : Bool} {env : Env} (h : yieldedE all env j = some b) : guardE all j b env = env := by
  unfold yieldedE at h
  unfold guardE
  cases hd : (all[j]?).bind (·.dst) with
  | none => rfl
  | some t =>
    rw [hd] at h
    dsimp only at h ⊢
    have ht : env t = .bool b := by
      cases he : env t <;> rw [he] at h <;> first | (cases h; done) | (obtain rfl := Option.some.inj h; rfl)
    exact condE_eq (c := .tmp t) ht
/-- An operation in its own order, a yield too. -/
def stepY (P : Program) (T : Tab) (o : Oper) (ev : Operand → Value) (F : Heap) (K : Value → Heap → Prop) : Prop :=
  match o.op with
  | .call ⟨.value f, args, _⟩ => (match ev f with
    | .func (.yield l) ⟨[]⟩ ⟨[]⟩ => YieldK P l (args.toList.map ev).toArray F K
    | _ => stepB P T o ev F K)
  | _ => stepB P T o ev F K
theorem stepY_sound {P : Program} {T : Tab} (hT : TabOk P T) {o : Oper} {ev : Operand → Value} {F : Heap} {K : Value → Heap → Prop} (h : stepY P T o ev F K) : opV P o ev F K := by
  unfold stepY at h
  split at h
  · next f args ts ho =>
    split at h
    · next l hf =>
      refine .inr ⟨f, args, ts, l, ho, hf, ?_⟩
      have hm : Array.map ev args = (args.toList.map ev).toArray := Array.toList_inj.1 (by simp)
      rw [hm]; exact h
    · exact .inl (stepB_sound hT h)
  · exact .inl (stepB_sound hT h)
/-- Operations in their own order, told step by step. -/
def opsStep (P : Program) (T : Tab) (all : Array Oper) (o : Oper) (ih : Env → Heap → Prop) (env : Env) (F : Heap) : Prop :=
    match o.guard with
    | none => stepY P T o env.ev F fun v F' => ih (env.set o.dst v) F'
    | some (j, want) => match yieldedE all env j with
      | some b => CondK (match want with | true => b | false => !b) (stepY P T o (guardE all j want env).ev F fun v F' => ih ((guardE all j want env).set o.dst v) F') (ih ((guardE all j (!want) env).set o.dst undef) F)
      | none => ih (env.set o.dst undef) F
def opsK (P : Program) (T : Tab) (all : Array Oper) (K : Env → Heap → Prop) (l : List Oper) : Env → Heap → Prop :=
  List.rec (motive := fun _ => Env → Heap → Prop) K (fun o _ ih => opsStep P T all o ih) l
theorem opsK_eq {P : Program} {T : Tab} {all : Array Oper} {K : Env → Heap → Prop} {o : Oper} {l : List Oper} {env : Env} {F : Heap} : opsK P T all K (o :: l) env F = opsStep P T all o (opsK P T all K l) env F := rfl
theorem opsK_sound {P : Program} {T : Tab} (hT : TabOk P T) {all : Array Oper} {K : Env → Heap → Prop} : ∀ (l : List Oper) (env : Env) (F : Heap), opsK P T all K l env F → opsW P all K l env F := by
  intro l
  induction l with
  | nil => intro env F h; exact h
  | cons o rest ih =>
    intro env F h
    simp only [opsK_eq, opsStep] at h
    simp only [opsW]
    split
    · next hg => simp only [hg] at h; exact opV_mono (stepY_sound hT h) fun v F' => ih _ _
    · next j want hg =>
      simp only [hg] at h
      split
      · next b hy =>
        simp only [hy] at h
        refine ⟨fun e => ?_, fun e => ?_⟩
        · subst e
          have h := h.yes (by cases b <;> rfl)
          rw [guardE_eq hy] at h
          exact opV_mono (stepY_sound hT h) fun v F' => ih _ _
        · subst e
          have h := h.no (by cases want <;> rfl)
          rw [guardE_eq hy] at h
          exact ih _ _ h
      · next hy => simp only [hy] at h; exact ih _ _ h
structure DrawK (P : Program) (T : Tab) (ops : Array Oper) (K : Env → Heap → Prop) (env : Env) (F : Heap) : Prop where
  out : DrawW P ops K env F
structure LoopK (body : (Exit → Env → Heap → Prop) → Env → Heap → Prop) (Q : Exit → Env → Heap → Prop) (env : Env) (F : Heap) : Prop where
  out : ∃ (I : Nat → Env → Heap → Prop) (m : Nat), I m env F ∧ ∀ m env F, I m env F → body (thenE (fun env' F' => ∃ m', m' < m ∧ I m' env' F') Q) env F
structure RangeK (P : Program) (f : Operand) (ps : Array Tmp) (x y : Code) (Q : Exit → Env → Heap → Prop) (env : Env) (F : Heap) : Prop where
  out : RangeW P f ps x y Q (fun n => okDst true n (.rangeFunc f ps x y)) env F
/-- What a statement comes to, told step by step. -/
def condStep (c : Operand) (X Y : Env → Heap → Prop) (env : Env) (F : Heap) : Prop :=
  match env.ev c with
  | .bool t => CondK t (X (condE c true env) F) (Y (condE c false env) F)
  | _ => False
def regionStep (P : Program) (T : Tab) (ops : Array Oper) (draw : Bool) (Q : Exit → Env → Heap → Prop) (env : Env) (F : Heap) : Prop :=
  match draw with
  | true => DrawK P T ops (Q .normal) env F
  | false => opsK P T ops (Q .normal) ops.toList env F
def codeK (P : Program) (T : Tab) (c : Code) : (Exit → Env → Heap → Prop) → Env → Heap → Prop :=
  Code.rec (motive := fun _ => (Exit → Env → Heap → Prop) → Env → Heap → Prop)
    (fun Q env F => Q .normal env F)
    (fun _ ops draw Q env F => regionStep P T ops draw Q env F)
    (fun _ _ iha ihb Q env F => iha (thenE (ihb Q) Q) env F)
    (fun c _ _ iha ihb Q env F => condStep c (iha Q) (ihb Q) env F)
    (fun id _ ih Q env F => ih (blockE id Q) env F)
    (fun _ ih Q env F => LoopK ih Q env F)
    (fun f ps x y _ _ Q env F => RangeK P f ps x y Q env F)
    (fun id Q env F => Q (.exit id) env F)
    (fun _ ih Q env F => ih (scopeE Q) env F)
    (fun _ Q env F => Q .normal env F)
    (fun _ _ _ _ => False)
    (fun Q env F => Q .ret env F)
    (fun _ _ _ _ => False) c
theorem codeK_sound {P : Program} {T : Tab} (hT : TabOk P T) : ∀ (c : Code) (Q : Exit → Env → Heap → Prop) (env : Env) (F : Heap), codeK P T c Q env F → codeW P c Q env F := by
  intro c
  induction c with
  | skip => intro Q env F h; exact h
  | label l => intro Q env F h; exact h
  | exit l => intro Q env F h; exact h
  | ret => intro Q env F h; exact h
  | goto l => intro Q env F h; exact h.elim
  | refuse l => intro Q env F h; exact h.elim
  | rangeFunc f ps x y => intro Q env F h; exact h.out
  | region id ops draw =>
    intro Q env F h
    cases draw with
    | true => exact h.out
    | false => exact opsK_sound hT _ _ _ h
  | seq x y ihx ihy =>
    intro Q env F h
    refine codeW_mono x (fun e env F h => ?_) env F (ihx _ env F h)
    cases e <;> first | exact ihy _ _ _ h | exact h
  | cond c x y ihx ihy =>
    intro Q env F h
    change condStep c (codeK P T x Q) (codeK P T y Q) env F at h
    unfold condStep at h
    simp only [codeW]
    split at h
    · next t ht =>
      rw [ht]
      refine ⟨fun e => ?_, fun e => ?_⟩
      · subst e; have h := ihx _ _ _ (h.yes rfl); rwa [condE_eq ht] at h
      · subst e; have h := ihy _ _ _ (h.no rfl); rwa [condE_eq ht] at h
    · exact h.elim
  | block id c ih => intro Q env F h; exact ih _ _ _ h
  | scope c ih => intro Q env F h; exact ih _ _ _ h
  | loop c ih =>
    intro Q env F h
    obtain ⟨I, m, h0, hr⟩ := h.out
    exact ⟨I, m, h0, fun m env F hI => ih _ _ _ (hr m env F hI)⟩
/-- The slots are as told; of the others nothing is known. -/
def slotsE (ρ : Env) : List Nat → List Value → Env
  | s :: ss, v :: vs => fun t => bif Nat.beq t s then v else slotsE ρ ss vs t
  | _, _ => ρ
theorem slotsE_self (env : Env) : ∀ ss : List Nat, slotsE env ss (ss.map env) = env := by
  intro ss
  induction ss with
  | nil => rfl
  | cons s ss ih =>
    funext t
    simp only [List.map_cons, slotsE, ih]
    cases h : Nat.beq t s with
    | true => rw [cond_true, Nat.eq_of_beq_eq_true h]
    | false => rfl
/-- A loop, by what its slots hold round by round. -/
theorem loop_slots {body : (Exit → Env → Heap → Prop) → Env → Heap → Prop} {Q : Exit → Env → Heap → Prop} {env : Env} {F : Heap} (ss : List Nat) (I : Nat → List Value → Heap → Prop) (m : Nat) (h0 : I m (ss.map env) F)
    (round : ∀ m vs F ρ, I m vs F → body (thenE (fun env' F' => ∃ m', m' < m ∧ I m' (ss.map env') F') Q) (slotsE ρ ss vs) F) : LoopK body Q env F :=
  ⟨fun m env F => I m (ss.map env) F, m, h0, fun m env F hI => by
    have := round m (ss.map env) F env hI
    rwa [slotsE_self] at this⟩
theorem fn_walk {P : Program} {T : Tab} (hT : TabOk P T) {f : FuncId} {fn : Func} {c : Code} {l : List Value} {F : Heap} {R : Value → Heap → Prop} (hf : P.funcs[f]? = some fn) (hb : fn.body = some c) (hnm : (fn.name == "runtime.NumGoroutine") = false) (ha : Nat.ble l.length fn.ntmps = true) (hd : okDst false fn.ntmps c = true)
    (h : codeK P T c (retE P fn R) (enterE l) F) : FnK P f l.toArray F R :=
  FnK.of_body hf hb hnm (by simpa using ha) hd (codeK_sound hT c _ _ F h)
/-- A table that is written out. -/
def tabGo : List (Nat × TD) → Tab
  | [], _ => none
  | (k, d) :: l, t => bif Nat.beq t k then some d else tabGo l t
def TabAll (P : Program) : List (Nat × TD) → Prop
  | [] => True
  | (k, d) :: l => (P.underlying k = some d.desc ∧ (P.info? k).map (fun i => (i.size, i.bytes, i.zero)) = some (d.size, d.bytes, d.zero)) ∧ TabAll P l
theorem tabGo_ok {P : Program} : ∀ {l : List (Nat × TD)}, TabAll P l → TabOk P (tabGo l) := by
  intro l
  induction l with
  | nil => intro _ t d h; cases h
  | cons p l ih =>
    intro h t d ht
    obtain ⟨k, e⟩ := p
    obtain ⟨⟨h1, h2⟩, h⟩ := h
    unfold tabGo at ht
    cases hk : Nat.beq t k with
    | true =>
      rw [hk, cond_true] at ht
      obtain rfl := Option.some.inj ht
      obtain rfl := Nat.eq_of_beq_eq_true hk
      obtain ⟨i, hi, he⟩ := Option.map_eq_some_iff.1 h2
      simp only [Prod.mk.injEq] at he
      exact ⟨h1, i, hi, he.1, he.2.1, he.2.2⟩
    | false => rw [hk, cond_false] at ht; exact ih h t d ht
end Go.Al

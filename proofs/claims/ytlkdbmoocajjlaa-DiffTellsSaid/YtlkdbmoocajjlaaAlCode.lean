/- The logic of a known part of memory, 2: operations, regions in their own order, statements, functions. It holds for every program. -/
import Derived.Test.YtlkdbmoocajjlaaAlBase
import Derived.AtR
namespace Go.Al
open Go

/-- What is known stays known. -/
def Ext (F F' : Heap) : Prop := ∀ b o, F b = some o → F' b = some o

theorem Ext.refl (F : Heap) : Ext F F := fun _ _ h => h
theorem Ext.trans {F G H : Heap} (h : Ext F G) (k : Ext G H) : Ext F H := fun b o hb => k b o (h b o hb)
theorem Ext.put {F G : Heap} (h : Ext F G) {b : Nat} (hb : F b = none) (o : Obj) : Ext F (G.put b o) := fun c u hu => by
  by_cases hc : c = b
  · subst hc; rw [hb] at hu; cases hu
  · rw [Heap.put_other G o hc]; exact h c u hu
theorem Ext.cell {F G : Heap} (h : Ext F G) {a : Addr} {v : Value} (hc : F.cell? a = some v) : G.cell? a = some v := by
  unfold Heap.cell? at hc ⊢
  split at hc
  · next c e fz hb => rw [h _ _ hb]; exact hc
  · cases hc

/-- A call of f enters its body. -/
def Enters (P : Program) (f : FuncId) : Prop := ∃ fn, P.funcs[f]? = some fn ∧ (fn.name == "runtime.NumGoroutine") = false ∧ fn.body.isNone = false
/-- A function's contract: over what is known of memory. -/
def FnK (P : Program) (f : FuncId) (args : Array Value) (F : Heap) (R : Value → Heap → Prop) : Prop :=
  Enters P f ∧ ∀ w, Has F w → Calls P f args w fun e w' => ∃ v F', e = .returned v ∧ Has F' w' ∧ Rest w w' ∧ R v F'
theorem FnK.mono {P : Program} {f : FuncId} {args : Array Value} {F : Heap} {R R' : Value → Heap → Prop} (h : FnK P f args F R) (hr : ∀ v F', R v F' → R' v F') : FnK P f args F R' :=
  ⟨h.1, fun w hw => (h.2 w hw).mono fun _ _ ⟨v, F', h1, h2, h3, h4⟩ => ⟨v, F', h1, h2, h3, hr _ _ h4⟩⟩

theorem beq_ne {a b : Nat} (h : a ≠ b) : Nat.beq a b = false := by
  cases e : Nat.beq a b with
  | false => rfl
  | true => exact absurd (Nat.eq_of_beq_eq_true e) h
abbrev Env := Nat → Value
def Env.set (env : Env) (d : Option Tmp) (v : Value) : Env :=
  match d with
  | some d => fun t => bif Nat.beq t d then v else env t
  | none => env
def Env.ev (env : Env) : Operand → Value
  | .tmp t => env t
  | .const v => v
  | .global g => .pointer (some ⟨g, 0, none⟩)
  | .func f => .func (.func f) #[] #[]
/-- The temporaries are as told. -/
structure Ag (n : Nat) (env : Env) (a : Act) : Prop where
  size : a.tmps.size = n
  tmp : ∀ t, a.tmps.getD t undef = env t
/-- The calls that are put off: none; or (m) those that ranges over functions have left, each with an empty block of its own, from N on. -/
def Held (m : Bool) (N : Nat) (ds : List Deferred) (w : World) : Prop :=
  match m with
  | false => ds = []
  | true => ∃ ms : List Nat, ds = ms.map (fun r => ({ target := .collected r, args := #[] } : Deferred)) ∧ ms.Nodup ∧ ∀ r ∈ ms, N ≤ r ∧ w.heap[r]? = some (.deferred (some []))
theorem Held.mono {m : Bool} {N : Nat} {ds : List Deferred} {w w' : World} (h : Held m N ds w) (hr : Rest w w') : Held m N ds w' := by
  cases m with
  | false => exact h
  | true =>
    obtain ⟨ms, h1, h2, h3⟩ := h
    exact ⟨ms, h1, h2, fun r hm => ⟨(h3 r hm).1, hr.keep r (h3 r hm).2⟩⟩
theorem Held.nil (m : Bool) (N : Nat) (w : World) : Held m N [] w := by
  cases m with
  | false => exact rfl
  | true => exact ⟨[], rfl, List.nodup_nil, fun r h => by cases h⟩
theorem put_defers (a : Act) (d : Option Tmp) (v : Value) : (a.put d v).defers = a.defers := by unfold Act.put; split <;> rfl
theorem Ag.eval {n : Nat} {env : Env} {a : Act} (h : Ag n env a) : a.eval = env.ev := by
  funext x
  cases x <;> simp only [Act.eval, Env.ev]
  exact h.tmp _
def dstOk (n : Nat) (o : Oper) : Bool := match o.dst with | some d => Nat.blt d n | none => true
theorem Ag.put {n : Nat} {env : Env} {a : Act} (h : Ag n env a) {o : Oper} (hd : dstOk n o = true) (v : Value) : Ag n (env.set o.dst v) (a.put o.dst v) := by
  unfold dstOk at hd
  cases hdst : o.dst with
  | none => simpa [Act.put, Env.set] using h
  | some d =>
    rw [hdst] at hd
    have hlt : d < n := by simpa [Nat.blt_eq] using hd
    refine ⟨by simp [Act.put, h.size], fun t => ?_⟩
    have hs := h.size
    simp only [Act.put, Env.set]
    by_cases ht : t = d
    · subst ht
      simp [Array.getD_eq_getD_getElem?, hs, hlt]
    · have hb : Nat.beq t d = false := beq_ne ht
      rw [hb, cond_false, ← h.tmp t]
      simp [Array.getD_eq_getD_getElem?, Ne.symm ht]

/-- What an operation comes to. -/
def nextK (P : Program) (K : Value → Heap → Prop) (nx : Next) (F' : Heap) : Prop :=
  match nx with
  | .value v => K v F'
  | .skip => K undef F'
  | .enter f args => FnK P f args F' K
  | _ => False
def opW (P : Program) (o : Oper) (ev : Operand → Value) (F : Heap) (K : Value → Heap → Prop) : Prop :=
  ∀ w, Has F w → ∃ nx w' F', (execOp ev o).run P w = .ok nx w' ∧ Has F' w' ∧ Rest w w' ∧ nextK P K nx F'
theorem opW_wk {P : Program} {o : Oper} {ev : Operand → Value} {F : Heap} {K : Value → Heap → Prop} (h : wk P (execOp ev o) F (nextK P K)) : opW P o ev F K := fun _ hw => wk_sound h hw
theorem opW_mono {P : Program} {o : Oper} {ev : Operand → Value} {F : Heap} {K K' : Value → Heap → Prop} (h : opW P o ev F K) (hk : ∀ v F', K v F' → K' v F') : opW P o ev F K' := by
  intro w hw
  obtain ⟨nx, w', F', h1, h2, h3, hn⟩ := h w hw
  refine ⟨nx, w', F', h1, h2, h3, ?_⟩
  cases nx <;> first | exact hk _ _ hn | exact FnK.mono (P := P) hn hk | exact (hn : False).elim
theorem opW_sound {P : Program} {o : Oper} {n : Nat} {env : Env} {a : Act} {F : Heap} {w : World} {K : Value → Heap → Prop} {next : Act → World → Prop} {Q : Exit → Act → World → Prop}
    (h : opW P o env.ev F K) (ha : Ag n env a) (hw : Has F w) (hn : ∀ v F' w', K v F' → Has F' w' → Rest w w' → next (a.put o.dst v) w') : o.wp P a w next Q := by
  obtain ⟨nx, w', F', hr, h1, h2, h3⟩ := h w hw
  unfold Oper.wp
  rw [ha.eval, hr]
  cases nx with
  | value v => exact hn v F' w' h3 h1 h2
  | skip => exact hn undef F' w' h3 h1 h2
  | enter f args =>
    refine Calls.mono (h3.2 w' h1) ?_
    rintro e w'' ⟨v, F'', rfl, g1, g2, g3⟩
    exact hn v F'' w'' g3 g1 (h2.trans g2)
  | _ => exact (h3 : False).elim

def yieldedE (ops : Array Oper) (env : Env) (j : Nat) : Option Bool :=
  match (ops[j]?).bind (·.dst) with
  | some t => match env t with | .bool b => some b | _ => none
  | none => none
theorem yielded_of {ops : Array Oper} {n : Nat} {env : Env} {a : Act} (h : Ag n env a) (j : Nat) : yielded ops a.tmps j = yieldedE ops env j := by
  unfold yielded yieldedE
  cases (ops[j]?).bind (·.dst) with
  | none => rfl
  | some t =>
    simp only [Option.bind_some]
    rw [← h.tmp t, Array.getD_eq_getD_getElem?]
    cases a.tmps[t]? with
    | none => rfl
    | some v => simp only [Option.getD_some]; cases v <;> rfl
/-- A yield: what a round of the loop makes of memory. -/
structure YieldK (P : Program) (l : Nat) (args : Array Value) (F : Heap) (K : Value → Heap → Prop) : Prop where
  out : ∀ w, Has F w → ∃ fn tmps assign body, (Instr.yield l args).run P w = .ok (.round l fn tmps assign body) w ∧
    ∀ (c : Frame) (cs : List Frame), ∃ v w' F', Steps P (lone (Frame.round l fn tmps assign body .normal) (c :: cs) w) (lone (c.finish v) cs w') ∧ Has F' w' ∧ Rest w w' ∧ K v F'
/-- What an operation comes to, a yield too. -/
def opV (P : Program) (o : Oper) (ev : Operand → Value) (F : Heap) (K : Value → Heap → Prop) : Prop :=
  opW P o ev F K ∨ ∃ f args ts l, o.op = .call ⟨.value f, args, ts⟩ ∧ ev f = .func (.yield l) #[] #[] ∧ YieldK P l (args.map ev) F K
theorem opV_mono {P : Program} {o : Oper} {ev : Operand → Value} {F : Heap} {K K' : Value → Heap → Prop} (h : opV P o ev F K) (hk : ∀ v F', K v F' → K' v F') : opV P o ev F K' := by
  rcases h with h | ⟨f, args, ts, l, h1, h2, h3⟩
  · exact .inl (opW_mono h hk)
  · refine .inr ⟨f, args, ts, l, h1, h2, ⟨fun w hw => ?_⟩⟩
    obtain ⟨fn, tmps, x, y, h4, h5⟩ := h3.out w hw
    refine ⟨fn, tmps, x, y, h4, fun c cs => ?_⟩
    obtain ⟨v, w', F', g1, g2, g3, g4⟩ := h5 c cs
    exact ⟨v, w', F', g1, g2, g3, hk _ _ g4⟩
section
variable {P : Program} {b : Frame} {a : Act} {k : List Item} {cs : List Frame} {w : World} {ops : Array Oper}
theorem finish_atR (i : Nat) (rest : List Nat) (v : Value) : (b.atR a (.inRegion ops (i :: rest) :: k)).finish v = b.atR (a.put ((ops[i]?).bind (·.dst)) v) (.inRegion ops rest :: k) := by
  cases h : (ops[i]?).bind (·.dst) <;> simp [Frame.finish, Frame.atR, Act.put, h]
theorem stepR_region {id : Nat} : step P (lone (b.atR a (.code (.region id ops false) :: k)) cs w) = .next (lone (b.atR a (.inRegion ops (List.range ops.size) :: k)) cs w) :=
  step_lone_go (by simp [stepG, stepG.exec, Frame.atR])
theorem stepR_region_end : step P (lone (b.atR a (.inRegion ops [] :: k)) cs w) = .next (lone (b.atR a k) cs w) :=
  step_lone_go (by simp [stepG, stepG.exec, Frame.atR])
theorem stepR_skip {i : Nat} {rest : List Nat} (h : ((ops[i]?).map (Region.wanted · (yielded ops a.tmps))).getD false = false) :
    step P (lone (b.atR a (.inRegion ops (i :: rest) :: k)) cs w) = .next (lone (b.atR (a.put ((ops[i]?).bind (·.dst)) undef) (.inRegion ops rest :: k)) cs w) := by
  rw [← finish_atR]
  exact step_lone_go (by
    have h' := h
    simp only [Frame.atR] at *
    simp [stepG, stepG.exec, h'])
theorem stepGR_op {i : Nat} {rest : List Nat} {o : Oper} (ho : ops[i]? = some o) (hw : Region.wanted o (yielded ops a.tmps) = true) (hd : ∀ c, o.op ≠ .defer c) :
    stepG P true { frame := b.atR a (.inRegion ops (i :: rest) :: k), callers := cs, status := .running, dying := none } w = stepG.apply P true (b.atR a (.inRegion ops (i :: rest) :: k)) cs none (execOp a.eval o) w := by
  have he := Frame.eval_atR b a (.inRegion ops (i :: rest) :: k)
  simp only [Frame.atR] at he
  cases hr : b.roundOf with
  | none =>
    rw [hr] at he
    simp [stepG, stepG.exec, stepG.oper, Frame.oper?, Frame.atR, ho, hw, he, hr]
  | some l =>
    rw [hr] at he
    cases hop : o.op <;> first
      | exact absurd hop (hd _)
      | simp [stepG, stepG.exec, stepG.oper, Frame.oper?, Frame.atR, ho, hw, he, hr, hop]
end
theorem opV_steps {P : Program} {ops : Array Oper} {i : Nat} {o : Oper} (ho : ops[i]? = some o) {n : Nat} {env : Env} {a : Act} {F : Heap} {w : World} {K : Value → Heap → Prop} (hwant : Region.wanted o (yielded ops a.tmps) = true)
    (h : opV P o env.ev F K) (ha : Ag n env a) (hw : Has F w) (b : Frame) (rest : List Nat) (k : List Item) (cs : List Frame) :
    ∃ v w' F', Steps P (lone (b.atR a (.inRegion ops (i :: rest) :: k)) cs w) (lone (b.atR (a.put o.dst v) (.inRegion ops rest :: k)) cs w') ∧ Has F' w' ∧ Rest w w' ∧ K v F' := by
  have hfin : ∀ v, (b.atR a (.inRegion ops (i :: rest) :: k)).finish v = b.atR (a.put o.dst v) (.inRegion ops rest :: k) := by
    intro v; rw [finish_atR, ho]; rfl
  rcases h with h | ⟨f, args, ts, l, h1, h2, h3⟩
  · obtain ⟨nx, w', F', hr, g1, g2, g3⟩ := h w hw
    have hd : ∀ c, o.op ≠ .defer c := by
      intro c hc
      have : execOp env.ev o = (do pure (.defer (← resolve env.ev c o.type))) := by simp only [execOp, hc]
      rw [this, Sem.run_bind] at hr
      cases hres : (resolve env.ev c o.type).run P w with
      | ok d w1 => rw [hres, Result.andThen_ok, Sem.run_pure] at hr; injection hr with e1 e2; subst e1; exact g3
      | halt x w1 => rw [hres] at hr; cases hr
    rw [← ha.eval] at hr
    have hg := stepGR_op (P := P) (b := b) (k := k) (cs := cs) (w := w) (rest := rest) ho hwant hd
    cases nx with
    | value v =>
      refine ⟨v, w', F', .one (step_lone_go ?_), g1, g2, g3⟩
      rw [hg, ← hfin]; simp [stepG.apply, hr]
    | skip =>
      refine ⟨undef, w', F', .one (step_lone_go ?_), g1, g2, g3⟩
      rw [hg, ← hfin]; simp [stepG.apply, hr]
    | enter f args =>
      obtain ⟨e, w'', fr, ⟨v, F'', rfl, q1, q2, q3⟩, hsteps, _, hleave⟩ := g3.2 w' g1 (b.atR a (.inRegion ops (i :: rest) :: k) :: cs)
      have henter : step P (lone (b.atR a (.inRegion ops (i :: rest) :: k)) cs w) = .next (lone (Frame.enter P f args .normal) (b.atR a (.inRegion ops (i :: rest) :: k) :: cs) w') :=
        step_lone_go (by rw [hg]; simp [stepG.apply, hr, Frame.atR])
      refine ⟨v, w'', F'', .head henter (Steps.trans hsteps (.one ?_)), q1, g2.trans q2, q3⟩
      rw [← hfin]; exact step_leave_returned hleave
    | _ => exact (g3 : False).elim
  · obtain ⟨fn, tmps, x, y, h4, h5⟩ := h3.out w hw
    have hd : ∀ c, o.op ≠ .defer c := fun c hc => by rw [h1] at hc; cases hc
    have hg := stepGR_op (P := P) (b := b) (k := k) (cs := cs) (w := w) (rest := rest) ho hwant hd
    have hr : (execOp a.eval o).run P w = .ok (.round l fn tmps x y) w := by
      rw [ha.eval]
      have : execOp env.ev o = Instr.yield l (args.map env.ev) := by
        simp only [execOp, h1, resolve, h2, Deferred.ofValue, invoke]
        simp
      rw [this, h4]
    obtain ⟨v, w', F', g1, g2, g3, g4⟩ := h5 (b.atR a (.inRegion ops (i :: rest) :: k)) cs
    have henter : step P (lone (b.atR a (.inRegion ops (i :: rest) :: k)) cs w) = .next (lone (Frame.round l fn tmps x y .normal) (b.atR a (.inRegion ops (i :: rest) :: k) :: cs) w) :=
      step_lone_go (by rw [hg]; simp [stepG.apply, hr, Frame.atR])
    refine ⟨v, w', F', .head henter ?_, g2, g3, g4⟩
    rw [← hfin]; exact g1

/-- Operations in their own order. -/
def opsW (P : Program) (all : Array Oper) (K : Env → Heap → Prop) : List Oper → Env → Heap → Prop
  | [], env, F => K env F
  | o :: rest, env, F =>
    match o.guard with
    | none => opV P o env.ev F fun v F' => opsW P all K rest (env.set o.dst v) F'
    | some (j, want) => match yieldedE all env j with
      | some b => (b = want → opV P o env.ev F fun v F' => opsW P all K rest (env.set o.dst v) F') ∧ (b = !want → opsW P all K rest (env.set o.dst undef) F)
      | none => opsW P all K rest (env.set o.dst undef) F

/-- The exits of a statement, lifted. -/
def up (m : Bool) (n : Nat) (w0 : World) (Q : Exit → Env → Heap → Prop) : Exit → Act → World → Prop :=
  fun e a w => ∃ env F, Ag n env a ∧ Held m w0.heap.size a.defers w ∧ Has F w ∧ Rest w0 w ∧ Q e env F

theorem opsW_arr {P : Program} {ops : Array Oper} {m : Bool} {n : Nat} {K : Env → Heap → Prop} {w0 : World} (hd : ∀ o ∈ ops.toList, dstOk n o = true) :
    ∀ (l : List Oper) (j : Nat), ops.toList.drop j = l → ∀ (env : Env) (F : Heap) (a : Act) (w : World), opsW P ops K l env F → Ag n env a → Held m w0.heap.size a.defers w → Has F w → Rest w0 w →
      ∀ (b : Frame) (k : List Item) (cs : List Frame), ∃ env' F' a' w', Steps P (lone (b.atR a (.inRegion ops (List.range' j l.length) :: k)) cs w) (lone (b.atR a' k) cs w') ∧ Ag n env' a' ∧ Held m w0.heap.size a'.defers w' ∧ Has F' w' ∧ Rest w0 w' ∧ K env' F' := by
  intro l
  induction l with
  | nil => intro j _ env F a w h ha hh hw hr b k cs; exact ⟨env, F, a, w, .one stepR_region_end, ha, hh, hw, hr, h⟩
  | cons o rest ih =>
    intro j hj env F a w h ha hh hw hr b k cs
    have ho : ops[j]? = some o := by
      have : ops.toList[j]? = some o := by rw [← List.head?_drop, hj]; rfl
      simpa using this
    have hrest : ops.toList.drop (j + 1) = rest := by rw [← List.tail_drop, hj]; rfl
    have hdo : dstOk n o = true := hd o (by rw [← List.take_append_drop j ops.toList, hj]; simp)
    rw [List.length_cons, List.range'_succ]
    have run : Region.wanted o (yielded ops a.tmps) = true → opV P o env.ev F (fun v F' => opsW P ops K rest (env.set o.dst v) F') → ∃ env' F' a' w', Steps P (lone (b.atR a (.inRegion ops (j :: List.range' (j + 1) rest.length) :: k)) cs w) (lone (b.atR a' k) cs w') ∧ Ag n env' a' ∧ Held m w0.heap.size a'.defers w' ∧ Has F' w' ∧ Rest w0 w' ∧ K env' F' := by
      intro hwant h
      obtain ⟨v, w1, F1, g1, g2, g3, g4⟩ := opV_steps ho hwant h ha hw b (List.range' (j + 1) rest.length) k cs
      obtain ⟨env', F', a', w', q1, q2⟩ := ih (j + 1) hrest _ _ _ _ g4 (ha.put hdo v) (by rw [put_defers]; exact hh.mono g3) g2 (hr.trans g3) b k cs
      exact ⟨env', F', a', w', Steps.trans g1 q1, q2⟩
    have skp : Region.wanted o (yielded ops a.tmps) = false → opsW P ops K rest (env.set o.dst undef) F → ∃ env' F' a' w', Steps P (lone (b.atR a (.inRegion ops (j :: List.range' (j + 1) rest.length) :: k)) cs w) (lone (b.atR a' k) cs w') ∧ Ag n env' a' ∧ Held m w0.heap.size a'.defers w' ∧ Has F' w' ∧ Rest w0 w' ∧ K env' F' := by
      intro hwant h
      obtain ⟨env', F', a', w', q1, q2⟩ := ih (j + 1) hrest _ _ _ _ h (ha.put hdo undef) (by rw [put_defers]; exact hh) hw hr b k cs
      have hs := stepR_skip (P := P) (b := b) (a := a) (k := k) (cs := cs) (w := w) (ops := ops) (i := j) (rest := List.range' (j + 1) rest.length) (by simp [ho, hwant])
      rw [ho] at hs
      exact ⟨env', F', a', w', .head hs q1, q2⟩
    simp only [opsW] at h
    cases hg : o.guard with
    | none =>
      simp only [hg] at h
      exact run (by simp [Region.wanted, hg]) h
    | some jw =>
      obtain ⟨jj, want⟩ := jw
      simp only [hg] at h
      have hW : Region.wanted o (yielded ops a.tmps) = (yieldedE ops env jj == some want) := by simp [Region.wanted, hg, yielded_of ha]
      cases hy : yieldedE ops env jj with
      | none =>
        simp only [hy] at h hW
        exact skp (by rw [hW]; simp) h
      | some bb =>
        simp only [hy] at h hW
        by_cases hb : bb = want
        · exact run (by rw [hW]; simp [hb]) (h.1 hb)
        · exact skp (by rw [hW]; simp [hb]) (h.2 (by cases bb <;> cases want <;> simp_all))

/-- A drawn region: its own theory gives its meaning (AlDraw). Here: whatever makes every order come to Q. -/
def DrawW (P : Program) (ops : Array Oper) (K : Env → Heap → Prop) (env : Env) (F : Heap) : Prop :=
  ∀ (m : Bool) (n : Nat) (a : Act) (w w0 : World) (id : Nat) (Q : Exit → Env → Heap → Prop), (∀ o ∈ ops.toList, dstOk n o = true) → (∀ env F, K env F → Q .normal env F) → Ag n env a → Held m w0.heap.size a.defers w → Has F w → Rest w0 w → (Code.region id ops true).wp P (up m n w0 Q) a w

/-- A range over a function: told by what a round and the call of the function make of memory. -/
def RangeW (P : Program) (f : Operand) (ps : Array Tmp) (x y : Code) (Q : Exit → Env → Heap → Prop) (ok : Nat → Bool) (env : Env) (F : Heap) : Prop :=
  ∀ (n : Nat) (a : Act) (w w0 : World), ok n = true → Ag n env a → Held true w0.heap.size a.defers w → Has F w → Rest w0 w → (Code.rangeFunc f ps x y).wp P (up true n w0 Q) a w
def okDst (m : Bool) (n : Nat) : Code → Bool
  | .region _ ops _ => ops.toList.all (dstOk n)
  | .seq a b => okDst m n a && okDst m n b
  | .cond _ a b => okDst m n a && okDst m n b
  | .block _ c | .loop c | .scope c => okDst m n c
  | .rangeFunc _ ps a b => m && (ps.toList.all (fun t => Nat.blt t n) && (okDst m n a && okDst m n b))
  | _ => true
def thenE (K : Env → Heap → Prop) (Q : Exit → Env → Heap → Prop) : Exit → Env → Heap → Prop
  | .normal, env, F => K env F
  | e, env, F => Q e env F
def blockE (id : Nat) (Q : Exit → Env → Heap → Prop) : Exit → Env → Heap → Prop
  | .exit i, env, F => bif Nat.beq i id then Q .normal env F else Q (.exit i) env F
  | e, env, F => Q e env F
def scopeE (Q : Exit → Env → Heap → Prop) : Exit → Env → Heap → Prop
  | .goto _, _, _ => False
  | e, env, F => Q e env F
/-- What a statement comes to. -/
def codeW (P : Program) : Code → (Exit → Env → Heap → Prop) → Env → Heap → Prop
  | .skip, Q, env, F => Q .normal env F
  | .label _, Q, env, F => Q .normal env F
  | .region _ ops draw, Q, env, F => if draw then DrawW P ops (Q .normal) env F else opsW P ops (Q .normal) ops.toList env F
  | .seq a b, Q, env, F => codeW P a (thenE (codeW P b Q) Q) env F
  | .cond c a b, Q, env, F => match env.ev c with
    | .bool t => (t = true → codeW P a Q env F) ∧ (t = false → codeW P b Q env F)
    | _ => False
  | .block id c, Q, env, F => codeW P c (blockE id Q) env F
  | .loop c, Q, env, F => ∃ (I : Nat → Env → Heap → Prop) (m : Nat), I m env F ∧ ∀ m env F, I m env F → codeW P c (thenE (fun env' F' => ∃ m', m' < m ∧ I m' env' F') Q) env F
  | .scope c, Q, env, F => codeW P c (scopeE Q) env F
  | .exit id, Q, env, F => Q (.exit id) env F
  | .ret, Q, env, F => Q .ret env F
  | .rangeFunc f ps x y, Q, env, F => RangeW P f ps x y Q (fun n => okDst true n (.rangeFunc f ps x y)) env F
  | _, _, _, _ => False

theorem wp_loop_ix {P : Program} {c : Code} {Q : Exit → Act → World → Prop} {a : Act} {w : World} (J : Nat → Act → World → Prop) (m : Nat) (h0 : J m a w)
    (round : ∀ m a w, J m a w → c.wp P (Exit.then (fun a' w' => ∃ m', m' < m ∧ J m' a' w') Q) a w) : (Code.loop c).wp P Q a w := by
  intro b k cs
  have key : ∀ n a w, J n a w → ∃ e a' w', Q e a' w' ∧ Arrives P (lone (b.at a (.code c :: .inLoop c :: k)) cs w) b k cs e a' w' := by
    intro n
    induction n using Nat.strongRecOn with
    | _ n ih =>
      intro a w hI
      obtain ⟨e, a₁, w₁, hq, harr⟩ := round n a w hI b (.inLoop c :: k) cs
      cases e with
      | normal =>
        obtain ⟨m', hlt, hI₁⟩ := hq
        obtain ⟨e₂, a₂, w₂, hq₂, harr₂⟩ := ih m' hlt a₁ w₁ hI₁
        exact ⟨e₂, a₂, w₂, hq₂, .of_steps (Steps.trans harr (.one step_inLoop)) harr₂⟩
      | exit id => exact ⟨_, a₁, w₁, hq, .pass (x := .inLoop c) rfl (fun _ _ => .inl (by simp)) harr⟩
      | goto l => exact ⟨_, a₁, w₁, hq, .pass (x := .inLoop c) rfl (fun _ _ => .inl (by simp)) harr⟩
      | ret => exact ⟨_, a₁, w₁, hq, .pass (x := .inLoop c) rfl (fun _ _ => .inl (by simp)) harr⟩
      | panic ch => exact ⟨_, a₁, w₁, hq, .pass (x := .inLoop c) rfl (fun _ _ => .inl (by simp)) harr⟩
      | outgrown => exact ⟨_, a₁, w₁, hq, .pass (x := .inLoop c) rfl (fun _ _ => .inl (by simp)) harr⟩
  obtain ⟨e, a', w', hq, harr⟩ := key _ a w h0
  exact ⟨e, a', w', hq, .of_steps (.one step_loop) harr⟩

theorem codeW_sound {P : Program} {m : Bool} {n : Nat} : ∀ (c : Code) (Q : Exit → Env → Heap → Prop) (env : Env) (F : Heap) (a : Act) (w0 w : World), okDst m n c = true → codeW P c Q env F → Ag n env a → Held m w0.heap.size a.defers w → Has F w → Rest w0 w → c.wp P (up m n w0 Q) a w := by
  intro c
  induction c with
  | skip => intro Q env F a w0 w _ h ha hh hw hr; exact wp_skip ⟨env, F, ha, hh, hw, hr, h⟩
  | label l => intro Q env F a w0 w _ h ha hh hw hr; exact wp_label ⟨env, F, ha, hh, hw, hr, h⟩
  | exit id => intro Q env F a w0 w _ h ha hh hw hr; exact wp_exit ⟨env, F, ha, hh, hw, hr, h⟩
  | ret => intro Q env F a w0 w _ h ha hh hw hr; exact wp_ret ⟨env, F, ha, hh, hw, hr, h⟩
  | goto l => intro Q env F a w0 w _ h; exact h.elim
  | refuse l => intro Q env F a w0 w _ h; exact h.elim
  | rangeFunc f ps x y =>
    intro Q env F a w0 w hd h ha hh hw hr
    cases m with
    | false => simp [okDst] at hd
    | true => exact h n a w w0 hd ha hh hw hr
  | region id ops draw =>
    intro Q env F a w0 w hd h ha hh hw hr
    have hd' : ∀ o ∈ ops.toList, dstOk n o = true := List.all_eq_true.1 hd
    simp only [codeW] at h
    cases draw with
    | true => exact h m n a w w0 id Q hd' (fun _ _ h => h) ha hh hw hr
    | false =>
      intro b k cs
      obtain ⟨env', F', a', w', g1, g2⟩ := opsW_arr (m := m) (w0 := w0) hd' ops.toList 0 rfl env F a w h ha hh hw hr { b with roundOf := none } k cs
      have hat : ∀ (a : Act) (t : List Item), ({ b with roundOf := none } : Frame).atR a t = b.at a t := fun _ _ => rfl
      rw [hat, hat] at g1
      refine ⟨.normal, a', w', ⟨env', F', g2⟩, Steps.trans (.one step_region) ?_⟩
      rw [List.range_eq_range']
      simpa using g1
  | seq x y ihx ihy =>
    intro Q env F a w0 w hd h ha hh hw hr
    simp only [okDst, Bool.and_eq_true] at hd
    refine wp_seq (wp_mono (ihx _ env F a w0 w hd.1 h ha hh hw hr) ?_)
    rintro e a' w' ⟨env', F', h1, h0, h2, h3, h4⟩
    cases e <;> first | exact ihy Q env' F' a' w0 w' hd.2 h4 h1 h0 h2 h3 | exact ⟨env', F', h1, h0, h2, h3, h4⟩
  | cond x y z ihy ihz =>
    intro Q env F a w0 w hd h ha hh hw hr
    simp only [okDst, Bool.and_eq_true] at hd
    simp only [codeW] at h
    split at h
    · next t ht =>
      have hc : a.eval x = .bool t := by rw [ha.eval]; exact ht
      exact wp_cond_split hc (fun e => ihy Q env F a w0 w hd.1 (h.1 e) ha hh hw hr) (fun e => ihz Q env F a w0 w hd.2 (h.2 e) ha hh hw hr)
    · exact h.elim
  | block id c ih =>
    intro Q env F a w0 w hd h ha hh hw hr
    refine wp_block (wp_mono (ih _ env F a w0 w hd h ha hh hw hr) ?_)
    rintro e a' w' ⟨env', F', h1, h0, h2, h3, h4⟩
    cases e <;> simp only [blockE] at h4 <;> simp only [Exit.inBlock]
    case exit i =>
      by_cases hi : i = id
      · subst hi
        rw [if_pos rfl]
        rw [Nat.beq_refl, cond_true] at h4
        exact ⟨env', F', h1, h0, h2, h3, h4⟩
      · rw [if_neg hi]
        have hb : Nat.beq i id = false := beq_ne hi
        rw [hb, cond_false] at h4
        exact ⟨env', F', h1, h0, h2, h3, h4⟩
    all_goals exact ⟨env', F', h1, h0, h2, h3, h4⟩
  | scope c ih =>
    intro Q env F a w0 w hd h ha hh hw hr
    refine wp_scope_straight (wp_mono (ih _ env F a w0 w hd h ha hh hw hr) ?_)
    rintro e a' w' ⟨env', F', h1, h0, h2, h3, h4⟩
    cases e <;> first | exact ⟨env', F', h1, h0, h2, h3, h4⟩ | exact h4
  | loop c ih =>
    intro Q env F a w0 w hd h ha hh hw hr
    obtain ⟨I, i0, h0, hround⟩ := h
    refine wp_loop_ix (fun i a w => ∃ env F, Ag n env a ∧ Held m w0.heap.size a.defers w ∧ Has F w ∧ Rest w0 w ∧ I i env F) i0 ⟨env, F, ha, hh, hw, hr, h0⟩ ?_
    rintro i a w ⟨env, F, ha, hh, hw, hr, hI⟩
    refine wp_mono (ih _ env F a w0 w hd (hround i env F hI) ha hh hw hr) ?_
    rintro e a' w' ⟨env', F', h1, h0, h2, h3, h4⟩
    cases e with
    | normal =>
      obtain ⟨m', hm, hI'⟩ := h4
      exact ⟨m', hm, env', F', h1, h0, h2, h3, hI'⟩
    | _ => exact ⟨env', F', h1, h0, h2, h3, h4⟩

/-- What a function hands back. -/
structure ResK (P : Program) (F : Heap) (x : Value) (t : TypeId) (K : Value → Prop) : Prop where
  out : ∃ v, (∀ w, Has F w → (asAddr x >>= fun a => loadVar t a).run P w = .ok v w) ∧ K v
def retL (P : Program) (env : Env) (F : Heap) : List ResultVar → List Value → (List Value → Prop) → Prop
  | [], acc, K => K acc
  | .tmp t :: rs, acc, K => retL P env F rs (acc ++ [env t]) K
  | .cell a t :: rs, acc, K => ResK P F (env a) t fun v => retL P env F rs (acc ++ [v]) K
def oneV : List Value → Value
  | [v] => v
  | vs => .tuple vs.toArray
def retV (P : Program) (env : Env) (F : Heap) (rs : List ResultVar) (R : Value → Prop) : Prop :=
  match rs with
  | [.tmp t] => R (env t)
  | [] => R (.tuple #[])
  | [.tmp s, .tmp t] => R (.tuple #[env s, env t])
  | [.tmp s, .tmp t, .tmp u] => R (.tuple #[env s, env t, env u])
  | [.tmp s, .tmp t, .tmp u, .tmp x] => R (.tuple #[env s, env t, env u, env x])
  | rs => retL P env F rs [] fun vs => R (oneV vs)
def retE (P : Program) (fn : Func) (R : Value → Heap → Prop) : Exit → Env → Heap → Prop
  | .normal, env, F => retV P env F fn.results.toList (fun v => R v F)
  | .ret, env, F => retV P env F fn.results.toList (fun v => R v F)
  | _, _, _ => False
theorem retL_run {P : Program} {n : Nat} {env : Env} {F : Heap} {a : Act} {w : World} (ha : Ag n env a) (hw : Has F w) (f : ResultVar → Sem Value) (hf : ∀ x, f x = match x with
    | .tmp t => pure (a.tmps.getD t undef)
    | .cell b t => do loadVar t (← asAddr (a.tmps.getD b undef))) : ∀ (l : List ResultVar) (acc : List Value) (K : List Value → Prop), retL P env F l acc K → ∃ vs, (l.mapM f).run P w = .ok vs w ∧ K (acc ++ vs) := by
  intro l
  induction l with
  | nil => intro acc K h; exact ⟨[], by simp [Sem.run_pure], by rw [List.append_nil]; exact h⟩
  | cons r l ih =>
    intro acc K h
    cases r with
    | tmp t =>
      obtain ⟨vs, h1, h2⟩ := ih _ _ h
      exact ⟨env t :: vs, by simp [hf, ha.tmp, h1], by simpa using h2⟩
    | cell b t =>
      obtain ⟨v, hv, h⟩ := h.out
      obtain ⟨vs, h1, h2⟩ := ih _ _ h
      have hv' : (f (.cell b t)).run P w = .ok v w := by
        rw [hf]
        dsimp only
        rw [ha.tmp]
        exact hv w hw
      refine ⟨v :: vs, ?_, by simpa using h2⟩
      rw [List.mapM_cons, Sem.run_bind, hv', Result.andThen_ok, Sem.run_bind, h1, Result.andThen_ok, Sem.run_pure]
theorem results_of {P : Program} {fn : Func} {n : Nat} {env : Env} {F : Heap} {a : Act} {w : World} {R : Value → Prop} (ha : Ag n env a) (hw : Has F w) (h : retV P env F fn.results.toList R) : ∃ v, (results fn a.tmps).run P w = .ok v w ∧ R v := by
  obtain ⟨l, hl⟩ : ∃ l, fn.results = List.toArray l := ⟨fn.results.toList, by simp⟩
  unfold results
  rw [hl] at h ⊢
  unfold retV at h
  simp only [List.mapM_toArray]
  split at h
  · next t e => subst e; exact ⟨_, by simp [ha.tmp], h⟩
  · next e => subst e; exact ⟨_, by simp, h⟩
  · next s t e => subst e; exact ⟨_, by simp [ha.tmp], h⟩
  · next s t u e => subst e; exact ⟨_, by simp [ha.tmp], h⟩
  · next s t u x e => subst e; exact ⟨_, by simp [ha.tmp], h⟩
  · obtain ⟨vs, h1, h2⟩ := retL_run ha hw _ (fun _ => rfl) _ _ _ h
    refine ⟨_, ?_, h2⟩
    rw [show l.toArray.toList = l from rfl] at h1
    rw [Sem.run_bind]
    simp only [Sem.run_map, List.nil_append]
    erw [h1]
    rw [Result.andThen_ok, Result.andThen_ok, Sem.run_pure]
    congr 1
    cases vs with
    | nil => rfl
    | cons v vs => cases vs <;> rfl
/-- The temporaries when a function is entered. -/
def enterE (args : List Value) : Env := fun t => (args[t]?).getD undef
theorem FnK.of_body {P : Program} {f : FuncId} {fn : Func} {c : Code} {args : Array Value} {F : Heap} {R : Value → Heap → Prop} (hf : P.funcs[f]? = some fn) (hb : fn.body = some c) (hnm : (fn.name == "runtime.NumGoroutine") = false) (ha : args.size ≤ fn.ntmps) (hd : okDst false fn.ntmps c = true)
    (h : codeW P c (retE P fn R) (enterE args.toList) F) : FnK P f args F R := by
  refine ⟨⟨fn, hf, hnm, by rw [hb]; rfl⟩, ?_⟩
  intro w hw
  refine calls_of_wp hf hb ?_
  have hag : Ag fn.ntmps (enterE args.toList) { tmps := args ++ Array.replicate (fn.ntmps - args.size) undef, defers := [] } := by
    refine ⟨by simp; omega, fun t => ?_⟩
    simp only [enterE, Array.getD_eq_getD_getElem?, Array.getElem?_append, Array.getElem?_toList]
    by_cases ht : t < args.size
    · rw [if_pos ht]
    · rw [if_neg ht, Array.getElem?_eq_none (by omega : args.size ≤ t)]
      simp only [Array.getElem?_replicate]
      split <;> rfl
  refine wp_mono (codeW_sound (m := false) c _ _ F _ w w hd h hag (Held.nil false _ w) hw (Rest.refl w)) ?_
  rintro e a' w' ⟨env', F', h1, h0, h2, h3, h4⟩
  cases e with
  | normal =>
    obtain ⟨v, hv, hR⟩ := results_of (P := P) (w := w') (R := fun v => R v F') h1 h2 h4
    exact ⟨h0, v, hv, v, F', rfl, h2, h3, hR⟩
  | ret =>
    obtain ⟨v, hv, hR⟩ := results_of (P := P) (w := w') (R := fun v => R v F') h1 h2 h4
    exact ⟨h0, v, hv, v, F', rfl, h2, h3, hR⟩
  | _ => exact h4.elim
end Go.Al

/- The logic of a known part of memory, 15: a range over a function. It holds for every program. -/
import Derived.Test.YtlkdbmoocajjlaaAlMore
namespace Go.Al
open Go

/-- Statements that a round's frame is led through here: no order drawn, no jump. -/
def straight : Code → Bool
  | .skip => true
  | .region _ _ draw => !draw
  | .seq a b => straight a && straight b
  | .cond _ a b => straight a && straight b
  | .block _ c => straight c
  | _ => false
section
variable {P : Program} {b : Frame} {a : Act} {k : List Item} {cs : List Frame} {w : World}
theorem stepR_code_skip : step P (lone (b.atR a (.code .skip :: k)) cs w) = .next (lone (b.atR a k) cs w) := step_lone_go (by simp [stepG, stepG.exec, Frame.atR])
theorem stepR_seq {x y : Code} : step P (lone (b.atR a (.code (.seq x y) :: k)) cs w) = .next (lone (b.atR a (.code x :: .code y :: k)) cs w) := step_lone_go (by simp [stepG, stepG.exec, Frame.atR])
theorem stepR_block {id : Nat} {x : Code} : step P (lone (b.atR a (.code (.block id x) :: k)) cs w) = .next (lone (b.atR a (.code x :: .inBlock id :: k)) cs w) := step_lone_go (by simp [stepG, stepG.exec, Frame.atR])
theorem stepR_inBlock {id : Nat} : step P (lone (b.atR a (.inBlock id :: k)) cs w) = .next (lone (b.atR a k) cs w) := step_lone_go (by simp [stepG, stepG.exec, Frame.atR])
theorem stepR_cond {c : Operand} {x y : Code} {t : Bool} (hc : a.eval c = .bool t) : step P (lone (b.atR a (.code (.cond c x y) :: k)) cs w) = .next (lone (b.atR a (.code (if t then x else y) :: k)) cs w) := by
  have he := Frame.eval_atR b a (.code (.cond c x y) :: k)
  simp only [Frame.atR] at he
  exact step_lone_go (by simp [stepG, stepG.exec, Frame.atR, he, hc])
end
theorem straight_steps {P : Program} {m : Bool} {n : Nat} : ∀ (c : Code) (Q : Exit → Env → Heap → Prop) (env : Env) (F : Heap) (a : Act) (w0 w : World), straight c = true → okDst m n c = true → codeW P c Q env F → Ag n env a → Held m w0.heap.size a.defers w → Has F w → Rest w0 w →
    ∀ (b : Frame) (k : List Item) (cs : List Frame), ∃ env' F' a' w', Steps P (lone (b.atR a (.code c :: k)) cs w) (lone (b.atR a' k) cs w') ∧ Ag n env' a' ∧ Held m w0.heap.size a'.defers w' ∧ Has F' w' ∧ Rest w0 w' ∧ Q .normal env' F' := by
  intro c
  induction c with
  | skip => intro Q env F a w0 w _ _ h ha hh hw hr b k cs; exact ⟨env, F, a, w, .one stepR_code_skip, ha, hh, hw, hr, h⟩
  | region id ops draw =>
    intro Q env F a w0 w hs hd h ha hh hw hr b k cs
    cases draw with
    | true => cases hs
    | false =>
      have hd' : ∀ o ∈ ops.toList, dstOk n o = true := List.all_eq_true.1 hd
      obtain ⟨env', F', a', w', g1, g2⟩ := opsW_arr (m := m) (w0 := w0) hd' ops.toList 0 rfl env F a w h ha hh hw hr b k cs
      refine ⟨env', F', a', w', .head stepR_region ?_, g2⟩
      rw [List.range_eq_range']
      simpa using g1
  | seq x y ihx ihy =>
    intro Q env F a w0 w hs hd h ha hh hw hr b k cs
    simp only [straight, Bool.and_eq_true] at hs
    simp only [okDst, Bool.and_eq_true] at hd
    obtain ⟨env1, F1, a1, w1, g1, g2, g3, g4, g5, g6⟩ := ihx _ env F a w0 w hs.1 hd.1 h ha hh hw hr b (.code y :: k) cs
    obtain ⟨env2, F2, a2, w2, q1, q2⟩ := ihy Q env1 F1 a1 w0 w1 hs.2 hd.2 g6 g2 g3 g4 g5 b k cs
    exact ⟨env2, F2, a2, w2, .head stepR_seq (Steps.trans g1 q1), q2⟩
  | cond x y z ihy ihz =>
    intro Q env F a w0 w hs hd h ha hh hw hr b k cs
    simp only [straight, Bool.and_eq_true] at hs
    simp only [okDst, Bool.and_eq_true] at hd
    simp only [codeW] at h
    split at h
    · next t ht =>
      have hc : a.eval x = .bool t := by rw [ha.eval]; exact ht
      cases t with
      | true =>
        obtain ⟨env2, F2, a2, w2, q1, q2⟩ := ihy Q env F a w0 w hs.1 hd.1 (h.1 rfl) ha hh hw hr b k cs
        exact ⟨env2, F2, a2, w2, .head (stepR_cond hc) q1, q2⟩
      | false =>
        obtain ⟨env2, F2, a2, w2, q1, q2⟩ := ihz Q env F a w0 w hs.2 hd.2 (h.2 rfl) ha hh hw hr b k cs
        exact ⟨env2, F2, a2, w2, .head (stepR_cond hc) q1, q2⟩
    · exact h.elim
  | block id c ih =>
    intro Q env F a w0 w hs hd h ha hh hw hr b k cs
    obtain ⟨env1, F1, a1, w1, g1, g2, g3, g4, g5, g6⟩ := ih _ env F a w0 w hs hd h ha hh hw hr b (.inBlock id :: k) cs
    exact ⟨env1, F1, a1, w1, .head stepR_block (Steps.trans g1 (.one stepR_inBlock)), g2, g3, g4, g5, g6⟩
  | _ => intro Q env F a w0 w hs; cases hs

theorem run_getLoop {P : Program} {w : World} {l : Nat} {r : Loop} (h : w.heap[l]? = some (.loop r)) : (Instr.getLoop l).run P w = .ok r w := by
  unfold Instr.getLoop
  simp [getObj, Sem.run, h, Sem.run_bind]
theorem run_setLoop {P : Program} {w : World} {l : Nat} {r r' : Loop} (h : w.heap[l]? = some (.loop r)) : (setObj l (.loop r')).run P w = .ok () { w with heap := w.heap.setIfInBounds l (.loop r') } := by
  simp [setObj, Sem.run, h]
theorem Has.loop {F : Heap} {w : World} (h : Has F w) {l : Nat} {r : Loop} (hl : F l = some (.loop r)) (r' : Loop) : Has (F.put l (.loop r')) { w with heap := w.heap.setIfInBounds l (.loop r') } := by
  refine h.put ?_ (fun c hc => ?_)
  · have := h.lt hl
    simp [this]
  · simp [Ne.symm hc]
theorem Rest.loop {w : World} {l : Nat} {r : Loop} (h : w.heap[l]? = some (.loop r)) (r' : Loop) : Rest w { w with heap := w.heap.setIfInBounds l (.loop r') } := by
  refine ⟨rfl, rfl, rfl, by simp, fun q hq => ?_⟩
  have hne : l ≠ q := fun e => by subst e; rw [h] at hq; cases hq
  show (w.heap.setIfInBounds l _)[q]? = _
  rw [Array.getElem?_setIfInBounds_ne hne]
  exact hq
def busyL (r : Loop) : Loop := { r with state := .busy }
def overL (r : Loop) : Loop := { r with state := .exhausted }
/-- A round. -/
theorem yield_of {P : Program} {l : Nat} {r : Loop} {args : Array Value} {F : Heap} {R : Value → Heap → Prop} {n : Nat} (hl : F l = some (.loop r)) (hs : r.state = .ready) (hp : r.pending = none) (ha : args.size = r.params.size) (env : Env)
    (hn : ((r.params.zip args).foldl (fun tmps (t, a) => tmps.setIfInBounds t a) r.tmps).size = n) (he : ∀ t, ((r.params.zip args).foldl (fun tmps (t, a) => tmps.setIfInBounds t a) r.tmps).getD t undef = env t)
    (s1 : straight r.assign = true) (s2 : straight r.body = true) (d1 : okDst false n r.assign = true) (d2 : okDst false n r.body = true)
    (h : codeW P r.assign (fun _ env1 F1 => F1 l = some (.loop r) ∧ codeW P r.body (fun _ _ F2 => F2 l = some (.loop (busyL r)) ∧ R (.bool true) (F2.put l (.loop r))) env1 (F1.put l (.loop (busyL r)))) env F) : YieldK P l args F R := by
  refine ⟨fun w hw => ⟨r.fn, (r.params.zip args).foldl (fun tmps (t, a) => tmps.setIfInBounds t a) r.tmps, r.assign, r.body, ?_, fun c cs => ?_⟩⟩
  · unfold Instr.yield
    rw [Sem.run_bind, run_getLoop (hw _ _ hl), Result.andThen_ok, if_neg (by simp [ha])]
    rfl
  · generalize (r.params.zip args).foldl (fun tmps (t, a) => tmps.setIfInBounds t a) r.tmps = tmps at hn he
    let b : Frame := { (default : Frame) with fn := r.fn, kind := .normal, roundOf := some l }
    have h0 : Frame.round l r.fn tmps r.assign r.body .normal = b.atR { tmps := tmps, defers := [] } [.code r.assign, .beginRound, .code r.body] := rfl
    rw [h0]
    obtain ⟨env1, F1, a1, w1, g1, g2, g3, g4, g5, g6, g7⟩ := straight_steps (m := false) r.assign _ env F { tmps := tmps, defers := [] } w w s1 d1 h ⟨hn, he⟩ rfl hw (Rest.refl w) b [.beginRound, .code r.body] (c :: cs)
    have hl1 := g4 _ _ g6
    have e1 : step P (lone (b.atR a1 [.beginRound, .code r.body]) (c :: cs) w1) = .next (lone (b.atR a1 [.code r.body]) (c :: cs) { w1 with heap := w1.heap.setIfInBounds l (.loop { r with state := .busy }) }) := by
      have hbr : (Instr.beginRound l).run P w1 = .ok () { w1 with heap := w1.heap.setIfInBounds l (.loop { r with state := .busy }) } := by
        unfold Instr.beginRound
        rw [Sem.run_bind, run_getLoop hl1, Result.andThen_ok, Sem.run_bind, run_setLoop hl1, Result.andThen_ok, hs]
        rfl
      refine step_lone_go ?_
      simp [stepG, stepG.exec, stepG.apply, Frame.atR, b, hbr, Frame.finish]
    obtain ⟨env2, F2, a2, w2, q1, q2, q3, q4, q5, q6, q7⟩ := straight_steps (m := false) r.body _ env1 _ a1 w _ s2 d2 g7 g2 (g3.mono (Rest.loop hl1 { r with state := .busy })) (g4.loop g6 _) (g5.trans (Rest.loop hl1 { r with state := .busy })) b [] (c :: cs)
    have hl2 := q4 _ _ q6
    have hrr : ({ state := LoopState.ready, pending := none, fn := (busyL r).fn, tmps := (busyL r).tmps, params := (busyL r).params, assign := (busyL r).assign, body := (busyL r).body, defers := (busyL r).defers } : Loop) = r := by
      cases r; simp at hs hp; simp [hs, hp, busyL]
    have e2 : step P (lone (b.atR a2 []) (c :: cs) w2) = .next (lone (c.finish (.bool true)) cs { w2 with heap := w2.heap.setIfInBounds l (.loop r) }) := by
      have her : (Instr.endRound l none).run P w2 = .ok (.bool true) { w2 with heap := w2.heap.setIfInBounds l (.loop r) } := by
        unfold Instr.endRound
        rw [Sem.run_bind, run_getLoop hl2, Result.andThen_ok, Sem.run_bind]
        have := run_setLoop (P := P) (r' := r) hl2
        simp only [Option.isNone_none, if_true]
        rw [hrr, this, Result.andThen_ok]
        rfl
      refine step_lone_go ?_
      simp [stepG, stepG.exec, Frame.atR, b, her, doReturn]
    exact ⟨.bool true, _, F2.put l (.loop r), Steps.trans g1 (.head e1 (Steps.trans q1 (.one e2))), q4.loop q6 _, q5.trans (Rest.loop hl2 _), q7⟩
theorem Has.pushed {F : Heap} {w : World} (h : Has F w) (o : Obj) : Has F { w with heap := w.heap.push o } := fun b u hb => by
  have := h.lt hb
  show (w.heap.push o)[b]? = _
  rw [Array.getElem?_push, if_neg (by omega)]
  exact h b u hb
theorem run_callFunc {P : Program} {g : FuncId} (h : Enters P g) (args : Array Value) (w : World) : (callFunc g args).run P w = .ok (.enter g args) w := by
  obtain ⟨fn, h1, h2, h3⟩ := h
  unfold callFunc
  rw [Sem.run_bind]
  show Result.andThen (Result.ok P w) _ = _
  rw [Result.andThen_ok]
  simp only [h1, h2, h3, Bool.false_eq_true, if_false, Sem.run_pure]
/-- The call of a range over a function. -/
theorem range_of {P : Program} {f : Operand} {ps : Array Tmp} {x y : Code} {Q : Exit → Env → Heap → Prop} {env : Env} {F : Heap} {g : FuncId} {first captured : List Value} (hf : env.ev f = .func (.func g) first.toArray captured.toArray)
    (h : ∀ (n : Nat) (r : Loop), r.state = .ready → r.pending = none → r.params = ps → r.assign = x → r.body = y → r.tmps.size = n → (∀ t, r.tmps.getD t undef = env t) → okDst true n (.rangeFunc f ps x y) = true → ∀ l, F l = none →
      FnK P g (first ++ [Value.func (.yield l) #[] #[]] ++ captured).toArray (F.put l (.loop r)) (fun _ F' => F' l = some (.loop r) ∧ Q .normal env (F'.put l (.loop (overL r))))) : RangeK P f ps x y Q env F := by
  refine ⟨fun n a w w0 hok ha hh hw hr b k cs => ?_⟩
  obtain ⟨rec0, hrec⟩ : ∃ rec0 : Loop, rec0 = { state := .ready, pending := none, fn := b.fn, tmps := a.tmps, params := ps, assign := x, body := y, defers := w.heap.size } := ⟨_, rfl⟩
  have hR := h n rec0 (by rw [hrec]) (by rw [hrec]) (by rw [hrec]) (by rw [hrec]) (by rw [hrec]) (by rw [hrec]; exact ha.size) (by rw [hrec]; exact ha.tmp) hok (w.heap.size + 1) (by
    cases e : F (w.heap.size + 1) with
    | none => rfl
    | some o => have := hw.lt e; omega)
  have hw1 : Has F { w with heap := w.heap.push (.deferred (some [])) } := hw.pushed _
  have hw2 := hw1.new (.loop rec0)
  have hr2 : Rest w { w with heap := (w.heap.push (.deferred (some []))).push (.loop rec0) } := (Rest.push w (.deferred (some []))).trans (Rest.push _ (.loop rec0))
  have hd2 : ((w.heap.push (.deferred (some []))).push (.loop rec0))[w.heap.size]? = some (.deferred (some [])) := by
    rw [Array.getElem?_push, if_neg (by simp), Array.getElem?_push, if_pos rfl]
  have hsz : (w.heap.push (.deferred (some []))).size = w.heap.size + 1 := by simp
  have hen : (Instr.enterLoop b.fn a.tmps ps x y none).run P w = .ok (w.heap.size + 1, [{ target := .collected w.heap.size, args := #[] }]) { w with heap := (w.heap.push (.deferred (some []))).push (.loop rec0) } := by
    have h1 : (Instr.enterLoop b.fn a.tmps ps x y none).run P w = .ok ((w.heap.push (.deferred (some []))).size, [{ target := .collected w.heap.size, args := #[] }]) { w with heap := (w.heap.push (.deferred (some []))).push (.loop { state := .ready, pending := none, fn := b.fn, tmps := a.tmps, params := ps, assign := x, body := y, defers := w.heap.size }) } := rfl
    rw [h1, hsz, hrec]
  replace hw2 : Has (F.put (w.heap.size + 1) (.loop rec0)) { w with heap := (w.heap.push (.deferred (some []))).push (.loop rec0) } := by rw [← hsz]; exact hw2
  obtain ⟨w2, hw2e⟩ : ∃ w2 : World, w2 = { w with heap := (w.heap.push (.deferred (some []))).push (.loop rec0) } := ⟨_, rfl⟩
  have hd2' : w2.heap[w.heap.size]? = some (.deferred (some [])) := by rw [hw2e]; exact hd2
  rw [← hw2e] at hw2 hr2 hen
  have hcall : (do let d ← resolve a.eval { callee := .value f, args := #[.const (.func (.yield (w.heap.size + 1)) #[] #[])], argTypes := #[] } 0; invoke d.target d.args).run P w2 = .ok (.enter g (first ++ [Value.func (.yield (w.heap.size + 1)) #[] #[]] ++ captured).toArray) w2 := by
    have hargs : first.toArray ++ #[Value.func (.yield (w.heap.size + 1)) #[] #[]] ++ captured.toArray = (first ++ [Value.func (.yield (w.heap.size + 1)) #[] #[]] ++ captured).toArray := Array.toList_inj.1 (by simp)
    have hfe : a.eval f = .func (.func g) first.toArray captured.toArray := by rw [ha.eval]; exact hf
    simp only [resolve, hfe, Deferred.ofValue, invoke, Sem.run_bind, Sem.run_pure, Result.andThen_ok]
    have : (#[Operand.const (.func (.yield (w.heap.size + 1)) #[] #[])] : Array Operand).map a.eval = #[Value.func (.yield (w.heap.size + 1)) #[] #[]] := by simp [Act.eval]
    rw [this, hargs]
    exact run_callFunc hR.1 _ _
  let fr2 : Frame := { b.at a (.inRangeFunc (w.heap.size + 1) :: k) with defers := { target := .collected w.heap.size, args := #[] } :: a.defers }
  obtain ⟨e, w3, fr3, ⟨v, F3, rfl, q1, q2, q3, q4⟩, hsteps, _, hleave⟩ := hR.2 w2 hw2 (fr2 :: cs)
  have s1 : step P (lone (b.at a (.code (.rangeFunc f ps x y) :: k)) cs w) = .next (lone (Frame.enter P g (first ++ [Value.func (.yield (w.heap.size + 1)) #[] #[]] ++ captured).toArray .normal) (fr2 :: cs) w2) := by
    refine step_lone_go ?_
    have he : ∀ t ds, ({ fn := b.fn, tmps := a.tmps, todo := t, defers := ds, mode := .run, kind := b.kind, roundOf := none } : Frame).eval = a.eval := fun t ds => funext fun x => by cases x <;> rfl
    simp only [stepG, stepG.exec, Frame.at, Sem.runT_eq, hen, GStep.bare_after, stepG.apply, he, hcall]
    simp only [if_true]
    rfl
  have hl3 := q1 _ _ q3
  have s3 : step P (lone (fr2.finish v) cs w3) = .next (lone (b.at { tmps := a.tmps, defers := { target := .collected w.heap.size, args := #[] } :: a.defers } k) cs { w3 with heap := w3.heap.setIfInBounds (w.heap.size + 1) (.loop { rec0 with state := .exhausted }) }) := by
    have hel : (Instr.endLoop (w.heap.size + 1)).run P w3 = .ok none { w3 with heap := w3.heap.setIfInBounds (w.heap.size + 1) (.loop { rec0 with state := .exhausted }) } := by
      unfold Instr.endLoop
      rw [Sem.run_bind, run_getLoop hl3, Result.andThen_ok]
      have hst : (rec0.state == LoopState.busy) = false := by rw [hrec]; rfl
      have hpe : rec0.pending = none := by rw [hrec]
      simp only [hst, Bool.false_eq_true, if_false, Sem.run_bind, run_setLoop hl3, Result.andThen_ok, Sem.run_pure, hpe]
    refine step_lone_go ?_
    simp [stepG, stepG.exec, fr2, Frame.finish, Frame.at, hel]
  obtain ⟨ms, e1, e2, e3⟩ := hh
  have hrl := Rest.loop hl3 { rec0 with state := .exhausted }
  refine ⟨.normal, { tmps := a.tmps, defers := { target := .collected w.heap.size, args := #[] } :: a.defers }, _, ⟨env, F3.put (w.heap.size + 1) (.loop { rec0 with state := .exhausted }), ⟨ha.size, ha.tmp⟩, ⟨w.heap.size :: ms, ?_, ?_, ?_⟩, q1.loop q3 _, hr.trans (hr2.trans (q2.trans hrl)), q4⟩, .head s1 (Steps.trans hsteps (.head (step_leave_returned hleave) (.one s3)))⟩
  · rw [List.map_cons, e1]
  · exact List.nodup_cons.2 ⟨fun hm => by have := (Array.getElem?_eq_some_iff.1 (e3 _ hm).2).1; omega, e2⟩
  · intro r hm
    rcases List.mem_cons.1 hm with rfl | hm
    · exact ⟨hr.size, hrl.keep _ (q2.keep _ hd2')⟩
    · exact ⟨(e3 r hm).1, hrl.keep _ (q2.keep _ (hr2.keep _ (e3 r hm).2))⟩
/-- How a function with ranges over functions hands back: its blocks for calls that were put off are gone. -/
def retM (P : Program) (fn : Func) (F0 : Heap) (R : Value → Heap → Prop) : Exit → Env → Heap → Prop
  | .normal, env, F => ∀ rs : List Nat, (∀ r ∈ rs, F0 r = none) → (∀ r ∈ rs, ∀ o, F r = some o → o = .deferred (some [])) → retV P env (lessL F rs) fn.results.toList (fun v => R v (lessL F rs))
  | .ret, env, F => ∀ rs : List Nat, (∀ r ∈ rs, F0 r = none) → (∀ r ∈ rs, ∀ o, F r = some o → o = .deferred (some [])) → retV P env (lessL F rs) fn.results.toList (fun v => R v (lessL F rs))
  | _, _, _ => False
theorem take_off {P : Program} (cs : List Frame) : ∀ (ms : List Nat) (fr : Frame) (w : World), fr.mode = .returning → fr.defers = ms.map (fun r => ({ target := .collected r, args := #[] } : Deferred)) → ms.Nodup → (∀ r ∈ ms, w.heap[r]? = some (.deferred (some []))) →
    ∃ w', Steps P (lone fr cs w) (lone { fr with defers := [] } cs w') ∧ w'.os = w.os ∧ w'.tape = w.tape ∧ w'.output = w.output ∧ w'.heap.size = w.heap.size ∧ ∀ c, c ∉ ms → w'.heap[c]? = w.heap[c]? := by
  intro ms
  induction ms with
  | nil =>
    intro fr w hm hd _ _
    refine ⟨w, ?_, rfl, rfl, rfl, rfl, fun _ _ => rfl⟩
    have : ({ fr with defers := [] } : Frame) = fr := by cases fr; simp at hd; simp [hd]
    rw [this]
    exact Steps.refl P _
  | cons r ms ih =>
    intro fr w hm hd hn hh
    obtain ⟨hr, hn⟩ := List.nodup_cons.1 hn
    have h0 := hh r (by simp)
    have ht : (Instr.takeDeferred r).run P w = .ok [] { w with heap := w.heap.setIfInBounds r (.deferred none) } := by
      simp [Instr.takeDeferred, getObj, setObj, Sem.run_bind, Sem.run, h0]
    have hother : ∀ c, c ≠ r → (w.heap.setIfInBounds r (Obj.deferred none))[c]? = w.heap[c]? := fun c hc => Array.getElem?_setIfInBounds_ne (Ne.symm hc)
    have s1 : step P (lone fr cs w) = .next (lone { fr with defers := ms.map (fun r => ({ target := .collected r, args := #[] } : Deferred)) } cs { w with heap := w.heap.setIfInBounds r (.deferred none) }) := by
      refine step_lone_go ?_
      rw [List.map_cons] at hd
      simp [stepG, hm, unwind, hd, ht]
    obtain ⟨w', g1, g2, g3, g4, g5, g6⟩ := ih { fr with defers := ms.map (fun r => ({ target := .collected r, args := #[] } : Deferred)) } { w with heap := w.heap.setIfInBounds r (.deferred none) } hm rfl hn (fun c hc => by
      show (w.heap.setIfInBounds r (Obj.deferred none))[c]? = _
      rw [hother c (fun e => hr (e ▸ hc))]
      exact hh c (by simp [hc]))
    refine ⟨w', .head s1 g1, g2, g3, g4, by rw [g5]; simp, fun c hc => ?_⟩
    rw [List.mem_cons, not_or] at hc
    rw [g6 c hc.2]
    exact hother c hc.1
theorem fn_range {P : Program} {T : Tab} (hT : TabOk P T) {f : FuncId} {fn : Func} {c : Code} {l : List Value} {F : Heap} {R : Value → Heap → Prop} (hf : P.funcs[f]? = some fn) (hb : fn.body = some c) (hnm : (fn.name == "runtime.NumGoroutine") = false) (hl : Nat.ble l.length fn.ntmps = true) (hd : okDst true fn.ntmps c = true)
    (h : codeK P T c (retM P fn F R) (enterE l) F) : FnK P f l.toArray F R := by
  replace h := codeK_sound hT c _ _ F h
  refine ⟨⟨fn, hf, hnm, by rw [hb]; rfl⟩, ?_⟩
  intro w hw cs
  have hlen : l.toArray.size ≤ fn.ntmps := by simpa using hl
  have hag : Ag fn.ntmps (enterE l) { tmps := l.toArray ++ Array.replicate (fn.ntmps - l.toArray.size) undef, defers := [] } := by
    refine ⟨by simp at hlen ⊢; omega, fun t => ?_⟩
    simp only [enterE, Array.getD_eq_getD_getElem?, Array.getElem?_append]
    by_cases ht : t < l.toArray.size
    · rw [if_pos ht]; simp
    · rw [if_neg ht, List.getElem?_eq_none (by simpa using ht : l.length ≤ t)]
      simp only [Array.getElem?_replicate]
      split <;> rfl
  let b : Frame := { (default : Frame) with fn := f, kind := .normal }
  have henter : Frame.enter P f l.toArray .normal = b.at { tmps := l.toArray ++ Array.replicate (fn.ntmps - l.toArray.size) undef, defers := [] } [.code c] := by
    simp [Frame.enter, Frame.at, hf, hb, b]
  obtain ⟨e, a', w', ⟨env', F', h1, hh, h2, h3, h4⟩, harr⟩ := codeW_sound (m := true) c _ _ F _ w w hd h hag (Held.nil true _ w) hw (Rest.refl w) b [] cs
  rw [← henter] at harr
  obtain ⟨ms, e1, e2, e3⟩ := hh
  have fin : ∀ todo, Steps P (lone (Frame.enter P f l.toArray .normal) cs w) (lone { b.at a' todo with mode := .returning } cs w') → (∀ rs : List Nat, (∀ r ∈ rs, F r = none) → (∀ r ∈ rs, ∀ o, F' r = some o → o = .deferred (some [])) → retV P env' (lessL F' rs) fn.results.toList (fun v => R v (lessL F' rs))) →
      ∃ e w'' fr, (∃ v F'', e = Ending.returned v ∧ Has F'' w'' ∧ Rest w w'' ∧ R v F'') ∧ Comes P (lone (Frame.enter P f l.toArray .normal) cs w) (lone fr cs w'') e ∧ fr.fn = f ∧ fr.leaving P w'' e := by
    intro todo hs hret
    obtain ⟨w'', g1, g2, g3, g4, g5, g6⟩ := take_off (P := P) cs ms { b.at a' todo with mode := .returning } w' rfl e1 e2 fun r hr => (e3 r hr).2
    have hlt : ∀ c o, w.heap[c]? = some o → c ∉ ms := fun c o hc hm => by
      have := (Array.getElem?_eq_some_iff.1 hc).1
      have := (e3 c hm).1
      omega
    have hH : Has (lessL F' ms) w'' := fun c o hc => by
      have hcm : c ∉ ms := fun hm => by rw [lessL_none hm] at hc; cases hc
      rw [lessL_at hcm] at hc
      rw [g6 c hcm]
      exact h2 c o hc
    have hR := hret ms (fun r hr => by
      cases e : F r with
      | none => rfl
      | some o => exact absurd hr (hlt r o (hw r o e))) (fun r hr o ho => by
      have := h2 r o ho
      rw [(e3 r hr).2] at this
      exact (Option.some.inj this).symm)
    obtain ⟨v, hv, hR⟩ := results_of (P := P) (w := w'') (R := fun v => R v (lessL F' ms)) h1 hH hR
    refine ⟨.returned v, w'', { b.at a' todo with mode := .returning, defers := [] }, ⟨v, _, rfl, hH, ⟨g2.trans h3.os, g3.trans h3.tape, g4.trans h3.output, by rw [g5]; exact h3.size, fun r hr => ?_⟩, hR⟩, Steps.trans hs g1, rfl, rfl, rfl, rfl, fn, hf, hv⟩
    rw [g6 r (hlt r _ hr)]
    exact h3.keep r hr
  cases e with
  | normal => exact fin [] (Steps.trans harr (.one step_end)) h4
  | ret => obtain ⟨todo, hs⟩ := harr; exact fin todo hs h4
  | _ => exact h4.elim
theorem yield_mono {P : Program} {l : Nat} {args : Array Value} {F : Heap} {K K' : Value → Heap → Prop} (h : YieldK P l args F K) (hk : ∀ v F', K v F' → K' v F') : YieldK P l args F K' := by
  refine ⟨fun w hw => ?_⟩
  obtain ⟨fn, tmps, x, y, h4, h5⟩ := h.out w hw
  refine ⟨fn, tmps, x, y, h4, fun c cs => ?_⟩
  obtain ⟨v, w', F', g1, g2, g3, g4⟩ := h5 c cs
  exact ⟨v, w', F', g1, g2, g3, hk _ _ g4⟩
/-- What is known of cells stands when the blocks for calls that were put off are gone. -/
theorem lessD {F : Heap} {rs : List Nat} (h : ∀ r ∈ rs, ∀ o, F r = some o → o = .deferred (some [])) {b : Nat} {c : Array Value} {e : TypeId} {fz : Nat × Nat} (hb : F b = some (.cells c e fz)) : lessL F rs b = some (.cells c e fz) := by
  rw [lessL_at fun hm => by cases h b hm _ hb]
  exact hb
theorem own_lessD {F : Heap} {rs : List Nat} {s : Value} {e z n : Nat} {vs : List Value} (hs : Own F s e z n vs) (h : ∀ r ∈ rs, ∀ o, F r = some o → o = .deferred (some [])) : Own (lessL F rs) s e z n vs := by
  refine ⟨hs.1, ?_⟩
  rcases hs.2 with h1 | ⟨b, c, cs, h1, ⟨fz, h2, h3⟩, h4⟩
  · exact .inl h1
  · exact .inr ⟨b, c, cs, h1, ⟨fz, lessD h h2, h3⟩, h4⟩
theorem Own.not_loop {F : Heap} {s : Value} {e z n l : Nat} {vs : List Value} (hs : Own F s e z n vs) {r : Loop} (hl : F l = some (.loop r)) : blk s ≠ some l := by
  intro e
  rcases hs.2 with ⟨h1, _⟩ | ⟨b, c, cs, h1, ⟨fz, h2, h3⟩, h4⟩
  · subst h1; cases e
  · subst h1
    obtain rfl : b = l := Option.some.inj e
    rw [hl] at h2; cases h2
theorem rowAt_loop {F : Heap} {A : Option Addr} {vs : List Value} {l : Nat} {r : Loop} (h : RowAt F A vs) (hl : F l = some (.loop r)) (o : Obj) : RowAt (F.put l o) A vs := fun j v hj => by
  obtain ⟨a, h1, h2⟩ := h j v hj
  refine ⟨a, h1, ?_⟩
  obtain ⟨c, e, fz, h3, h4, h5⟩ := cell_block h2
  have hne : (a.add j).block ≠ l := fun e => by rw [e, hl] at h3; cases h3
  unfold Heap.cell?
  rw [Heap.put_other _ _ hne, h3]
  simp only [h4, Option.isSome_none, Bool.false_eq_true, if_false]
  exact h5
/-- One parameter of a round. -/
theorem round_one {n : Nat} {tmps : Array Value} {env : Env} (t0 : Nat) (v : Value) (hn : tmps.size = n) (he : ∀ t, tmps.getD t undef = env t) (ht : t0 < n) :
    (((#[t0] : Array Tmp).zip #[v]).foldl (fun tmps (t, a) => tmps.setIfInBounds t a) tmps).size = n ∧ ∀ t, (((#[t0] : Array Tmp).zip #[v]).foldl (fun tmps (t, a) => tmps.setIfInBounds t a) tmps).getD t undef = env.set (some t0) v t := by
  have e0 : ((#[t0] : Array Tmp).zip #[v]).foldl (fun tmps (t, a) => tmps.setIfInBounds t a) tmps = tmps.setIfInBounds t0 v := by simp
  rw [e0]
  refine ⟨by simp [hn], fun t => ?_⟩
  simp only [Env.set]
  by_cases h : t = t0
  · subst h
    simp [Array.getD_eq_getD_getElem?, hn, ht]
  · have hb : Nat.beq t t0 = false := beq_ne h
    rw [hb, cond_false, ← he t]
    simp [Array.getD_eq_getD_getElem?, Ne.symm h]
end Go.Al

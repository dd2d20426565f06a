/- The logic of a known part of memory, 10: make, copy, an append of zeros, a mark. It holds for every program. -/
import Derived.Test.YtlkdbmoocajjlaaAlRow
import Derived.Laws.StructEq
namespace Go.Al
open Go
set_option linter.unusedSimpArgs false

theorem range_one (c : Nat) (z0 : Value) : (Array.range c).map (fun i => (#[z0] : Array Value)[i % (#[z0] : Array Value).size]!) = (List.replicate c z0).toArray := by
  apply Array.ext
  · simp
  · intro i h1 h2
    have : i % (#[z0] : Array Value).size = 0 := Nat.mod_one i
    simp [Nat.mod_one]
/-- A new row of zeros of one cell each. -/
theorem make_one {P : Program} {T : Tab} (hT : TabOk P T) {o : Oper} {ev : Operand → Value} {F : Heap} {K : Value → Heap → Prop} {t e : TypeId} {p q : Operand} (l c : Nat) {z0 : Value} {a1 a2 : Nat} {z1 : Option Value} {d : TD}
    (ho : o.op = .makeSlice t p q) (hp : ev p = .int .i64 l) (hq : ev q = .int .i64 c) (h1 : T t = some ⟨a1, a2, .slice e, z1⟩) (h2 : T e = some d) (hd : d.size = 1 ∧ 0 < d.bytes ∧ ∃ zv, d.zero = some zv ∧ zv.cells = #[z0])
    (hl : l ≤ c) (hc : c * d.bytes ≤ 281474976710656)
    (hk : ∀ b, F b = none → K (.slice (some ⟨b, 0, none⟩) l c) (F.put b (.cells (List.replicate c z0).toArray e))) : OpK P o ev F K := by
  obtain ⟨hu1, _⟩ := hT _ _ h1
  obtain ⟨_, i, hi, hsz, hby, hze⟩ := hT _ _ h2
  obtain ⟨hd1, hd2, zv, hzv, hzc⟩ := hd
  have hcc : c ≤ 281474976710656 := Nat.le_trans (Nat.le_mul_of_pos_right c hd2) hc
  refine ⟨opW_v (s := Instr.makeSlice t (ev p) (ev q)) (by simp only [execOp, ho]) ?_⟩
  rw [hp, hq]
  unfold Instr.makeSlice
  rw [wk_bind, wk_underlying hu1]
  dsimp only
  have hw1 : IntKind.i64.wrap (l : Int) = l := by rw [IntKind.wrap_i64]; omega
  have hw2 : IntKind.i64.wrap (c : Int) = c := by rw [IntKind.wrap_i64]; omega
  have hb : ¬ ((d.bytes : Int) * (c : Int) > 2 ^ 48) := by
    have : ((c * d.bytes : Nat) : Int) ≤ ((281474976710656 : Nat) : Int) := Int.ofNat_le.2 hc
    rw [Int.natCast_mul] at this
    rw [Int.mul_comm]
    omega
  simp only [asInt, asIntOf, wk_bind, wk_pure, wk_typeInfo hi, hby, hw1, hw2]
  rw [if_neg (by simp [hb]; omega)]
  simp only [wk_bind, wk_askRoom, wk_sizeOf hi, hsz, hd1, Nat.mul_one, Int.toNat_natCast]
  have fin : ∀ zc : Array Value, (c = 0 ∨ zc = #[z0]) → wk P (newRow e ((Array.range c).map (fun x => zc[x % zc.size]!))) F (fun a F' => K (.slice (some a) l c) F') := by
    intro zc hz
    have : (Array.range c).map (fun x => zc[x % zc.size]!) = (List.replicate c z0).toArray := by
      rcases hz with rfl | rfl
      · simp
      · exact range_one c z0
    rw [this]
    simp only [newRow, wk_bind, wk_pure]
    exact run_new ⟨fun b hb => hk b hb⟩
  by_cases h0 : c = 0
  · rw [if_pos h0]
    exact (wk_bind _ _ F K).2 (fin #[] (.inl h0))
  · rw [if_neg h0, wk_bind, wk_zeroValue hi (hze.trans hzv)]
    simp only [wk_bind, wk_pure, hzc]
    exact (wk_bind _ _ F _).1 (fin #[z0] (.inr rfl))
/-- A copy of all into a row that is known. -/
theorem copy_all {P : Program} {T : Tab} (hT : TabOk P T) {o : Oper} {ev : Operand → Value} {F : Heap} {K : Value → Heap → Prop} {t u e e' : TypeId} {p q : Operand} {g dl dc m : Nat} {y : Value} {ys : List Value} {cur : Array Value} {fz : Nat × Nat} {a1 a2 : Nat} {z1 : Option Value} {d : TD}
    (ho : o.op = .call ⟨.builtin .copy, #[p, q], #[t, u]⟩) (hp : ev p = .slice (some ⟨g, 0, none⟩) dl dc) (hq : ev q = y) (h1 : T t = some ⟨a1, a2, .slice e, z1⟩) (h2 : T e = some d)
    (hy : Src F d.size m y ys) (hm : m ≤ dl) (hg : F g = some (.cells cur e' fz)) (hfz : fz.2 ≤ fz.1 ∨ cur.size ≤ fz.1) (hsz : m * d.size ≤ cur.size) (hone : ∀ v ∈ ys, v.oneCell' = true)
    (hk : K (.int .i64 m) (F.put g (.cells (putL cur.toList 0 ys).toArray e' fz))) : OpK P o ev F K := by
  obtain ⟨hu1, _⟩ := hT _ _ h1
  obtain ⟨_, i, hi, hs, _, _⟩ := hT _ _ h2
  refine ⟨opW_v (s := Builtin.copy_ #[t, u] o.type #[.slice (some ⟨g, 0, none⟩) dl dc, y]) (by simp [execOp, ho, resolve, invoke, builtin, hp, hq]) ?_⟩
  unfold Builtin.copy_
  simp only [List.getElem?_toArray, List.getElem?_cons_zero, List.getElem?_cons_succ]
  rw [wk_bind, wk_underlying hu1]
  dsimp only
  rw [wk_bind]
  refine hy.len _ ?_
  have hmin : Nat.min m dl = m := Nat.min_eq_left hm
  rw [hmin, wk_bind, wk_sizeOf hi, hs, wk_bind]
  refine hy.cells _ ?_
  simp only [wk_bind]
  refine wk_storeCells (a := ⟨g, 0, none⟩) (e := e') (fz := fz) rfl ys 0 F cur _ hg (by rw [hy.1]; simpa using hsz) (hfz.imp id fun h => by rw [hy.1]; show 0 + 0 + m * d.size ≤ fz.1; omega) hone ?_
  exact hk
/-- A result that lies in a block of its own. -/
theorem res_cells {P : Program} {T : Tab} (hT : TabOk P T) {F : Heap} {t e : TypeId} {d : TD} {b : Nat} {c : Array Value} {fz : Nat × Nat} {K : Value → Prop} (ht : T t = some d) (ha : aggD d.desc = true) (hb : F b = some (.cells c e fz)) (hc : c.size = d.size) (hk : K (.agg c)) :
    ResK P F (.pointer (some ⟨b, 0, none⟩)) t K := by
  obtain ⟨hu, i, hi, hs, _, _⟩ := hT _ _ ht
  refine ⟨⟨.agg c, fun w hw => ?_, hk⟩⟩
  have h1 : (isAgg t).run P w = .ok true w := by
    unfold isAgg
    rw [Sem.run_bind, run_underlying hu, Result.andThen_ok]
    revert ha
    cases d.desc <;> intro ha <;> first | rfl | cases ha
  have h2 : (sizeOf t).run P w = .ok c.size w := by
    simp [sizeOf, typeInfo, hi, hs, hc, Sem.run_pure]
  have h3 := run_loadCells_list (P := P) w ⟨b, 0, none⟩ c.toList (fun j v hj => by
    rw [add_plain]
    have : F.cell? ⟨b, 0 + j, none⟩ = some v := by rw [Heap.cell_at hb]; simpa using hj
    exact hw.cell this)
  rw [Array.length_toList] at h3
  show ((pure ⟨b, 0, none⟩ : Sem Addr) >>= fun a => loadVar t a).run P w = _
  unfold loadVar
  simp only [pure_bind, Sem.run_bind, h1, Result.andThen_ok, if_true, h2, h3, Sem.run_pure]
/-- The mark that a constant's bytes bear. -/
theorem conv_mark {P : Program} {T : Tab} (hT : TabOk P T) {o : Oper} {ev : Operand → Value} {F : Heap} {K : Value → Heap → Prop} {t e e' : TypeId} {x : Operand} {b n c : Nat} {cs : Array Value} {a1 a2 : Nat} {z1 : Option Value} {b1 b2 : Nat} {z2 : Option Value}
    (ho : o.op = .convert t t x) (hx : ev x = .slice (some ⟨b, 0, none⟩) n c) (h1 : T t = some ⟨a1, a2, .slice e, z1⟩) (h3 : T e = some ⟨b1, b2, .int .u8, z2⟩) (hb : F b = some (.cells cs e' (0, 0)))
    (hk : K (.slice (some ⟨b, 0, none⟩) n c) (F.put b (.cells cs e' (cs.size, cs.size + 1)))) : OpK P o ev F K := by
  obtain ⟨hu1, _⟩ := hT _ _ h1
  obtain ⟨hu3, _⟩ := hT _ _ h3
  refine ⟨opW_v (s := convert t t (ev x)) (by simp only [execOp, ho]) ?_⟩
  rw [hx]
  simp only [convert, wk_bind, wk_underlying hu1]
  rw [wk_underlying hu3]
  simp only [beq_self_eq_true, wk_bind, markStringish]
  refine ⟨some (e', cs.size), by simp [Heap.shape?, hb], ?_⟩
  refine ⟨⟨cs, e', (0, 0), hb⟩, ?_⟩
  have hf : F.freeze ⟨b, cs.size, none⟩ 1 = F.put b (.cells cs e' (cs.size, cs.size + 1)) := by
    simp [Heap.freeze, hb]
  show K _ (F.freeze ⟨b, cs.size, none⟩ 1)
  rw [hf]
  exact hk
theorem zeroCells_one (z0 : Value) (n : Nat) : Builtin.zeroCells #[z0] n = (List.replicate n z0).toArray := by
  unfold Builtin.zeroCells
  rw [show n * (#[z0] : Array Value).size = n from Nat.mul_one n]
  exact range_one n z0
/-- An append of zeros of one cell each. -/
theorem append_zeros {P : Program} {T : Tab} (hT : TabOk P T) {o : Oper} {ev : Operand → Value} {F : Heap} {t u : TypeId} {p q : Operand} (ho : o.op = .call ⟨.builtin .append, #[p, q], #[t, u]⟩) {e : TypeId} {tsz tb : Nat} {tz : Option Value} {d : TD} {s : Value} {n m : Nat} {k : IntKind} {z0 : Value} {xs : List Value} {K : Value → Heap → Prop}
    (hp : ev p = s) (hq : ev q = .int .i64 m) (ht : T t = some ⟨tsz, tb, .slice e, tz⟩) (he : T e = some d) (hu : ∃ du, T u = some du ∧ du.desc = .int k) (hd : d.size = 1 ∧ 0 < d.bytes ∧ ∃ zv, d.zero = some zv ∧ zv.cells = #[z0]) (h1 : z0.oneCell' = true)
    (hs : Own F s e 1 n xs) (hlim : 2 * (n + m) * d.bytes ≤ 281474976710656)
    (hk : ∀ s' F', Own F' s' e 1 (n + m) (xs ++ List.replicate m z0) → Keeps F F' (blk s) → (∀ b, blk s' = some b → blk s = some b ∨ F b = none) → K s' F') : OpK P o ev F K := by
  obtain ⟨hut, _⟩ := hT _ _ ht
  obtain ⟨_, i, hi, hsz, hby, hze⟩ := hT _ _ he
  obtain ⟨du, hdu, hk'⟩ := hu
  obtain ⟨huu, _⟩ := hT _ _ hdu
  obtain ⟨hd1, hb0, zv, hzv, hzc⟩ := hd
  obtain ⟨A, c, rfl, hnc, hrow⟩ := hs.row
  have hlxs : xs.length = n := by simpa using hs.1
  have hm : n + m ≤ 281474976710656 := by
    have := Nat.le_mul_of_pos_right (2 * (n + m)) hb0
    omega
  refine ⟨opW_v (s := Builtin.append_ #[t, u] o.type #[.slice A n c, .int .i64 m]) (by simp [execOp, ho, resolve, invoke, builtin, hp, hq]) ?_⟩
  unfold Builtin.append_
  simp only [List.getElem?_toArray, List.getElem?_cons_zero, List.getElem?_cons_succ]
  rw [wk_bind, wk_underlying hut]
  dsimp only
  rw [wk_bind, wk_sizeOf hi, hsz, wk_bind]
  rw [wk_underlying huu, wk_bind, wk_pure, hk']
  dsimp only
  have hw : IntKind.i64.wrap (m : Int) = m := by rw [IntKind.wrap_i64]; omega
  have hmb : ¬ ((m : Int) * (d.bytes : Int) > 2 ^ 48) := by
    have : m * d.bytes ≤ 281474976710656 := Nat.le_trans (Nat.mul_le_mul_right _ (by omega)) hlim
    have : ((m * d.bytes : Nat) : Int) ≤ ((281474976710656 : Nat) : Int) := Int.ofNat_le.2 this
    rw [Int.natCast_mul] at this
    omega
  simp only [if_true, asInt, asIntOf, wk_bind, wk_pure, hw]
  rw [if_neg (by omega)]
  simp only [wk_bind, wk_pure, wk_typeInfo hi, hby]
  rw [if_neg hmb]
  simp only [wk_bind, wk_pure, Int.toNat_natCast, hd1, Nat.mul_one, Bool.not_true, Bool.false_eq_true, if_false]
  have app : ∀ (L : Array Value → Heap → Prop), L (List.replicate m z0).toArray F → wk P (if m = 0 then pure #[] else do pure (Builtin.zeroCells (← zeroValue e).cells m) : Sem (Array Value)) F L := by
    intro L hL
    by_cases h0 : m = 0
    · subst h0; rw [if_pos rfl]; exact hL
    · rw [if_neg h0, wk_bind, wk_zeroValue hi (hze.trans hzv), wk_pure, hzc, zeroCells_one]
      exact hL
  have hone : ∀ v ∈ List.replicate m z0, v.oneCell' = true := fun v hv => by rw [(List.mem_replicate.1 hv).2]; exact h1
  by_cases hfit : n + m ≤ c
  · rw [if_pos hfit, wk_bind]
    refine app _ ?_
    rcases hs.2 with ⟨hnil, h0⟩ | ⟨b, c', cs, heq, ⟨fz, hb, hfz⟩, hcs, hle, htake⟩
    · injection hnil with h1 h2 h3
      subst h1; subst h0; subst h3
      have hm : m = 0 := by omega
      subst hm
      have hxs : xs = [] := List.eq_nil_of_length_eq_zero hlxs
      subst hxs
      exact hk _ _ hs (fun _ _ h _ => h) (fun b hb => .inl hb)
    · injection heq with h1 h2 h3
      subst h1; subst h3
      have hl : 0 + n + (List.replicate m z0).length ≤ cs.size := by simp only [List.length_replicate]; omega
      have hadd : (⟨b, 0, none⟩ : Addr).add n = ⟨b, n, none⟩ := by rw [add_plain, Nat.zero_add]
      simp only [wk_bind, hadd]
      refine wk_storeCells (a := ⟨b, n, none⟩) (e := e) (fz := fz) rfl (List.replicate m z0) 0 F cs _ hb (by simpa using hl) (hfz.imp id fun h => by show n + 0 + (List.replicate m z0).length ≤ fz.1; omega) hone ?_
      refine hk _ _ ⟨by simp [hlxs], .inr ⟨b, c, _, rfl, ⟨fz, Heap.put_same _ _ _, hfz.imp id fun h => by simpa [length_putL] using h⟩, ?_, hfit, ?_⟩⟩ (Keeps.put F b _) (fun b' hb' => .inl hb')
      · show (putL cs.toList (n + 0) _).toArray.size = _
        simpa [length_putL] using hcs
      · show (putL cs.toList (n + 0) _).toArray.toList.take _ = _
        have hl' : n + (List.replicate m z0).length ≤ cs.toList.length := by simpa using hl
        rw [Nat.mul_one] at htake
        rw [Nat.add_zero, List.toList_toArray, putL_eq _ _ _ hl', htake, ← List.append_assoc, List.take_left']
        simp [hlxs]
  · rw [if_neg hfit]
    have hcn : c < n + m := by omega
    have hcap := nextslicecap_le (need := n + m) (old := c) (by omega)
    rw [wk_bind, wk_typeInfo hi]
    rw [if_neg (by rw [hby]; simp [IntKind.max, IntKind.signed, IntKind.bits]; omega)]
    rw [wk_bind, wk_typeInfo hi]
    rw [if_neg (by rw [hby]; have := Nat.mul_le_mul_right d.bytes hcap; omega)]
    rw [wk_bind]
    refine wk_choose fun nc _ hch => ?_
    obtain ⟨tt, rfl⟩ := hch rfl
    have hge : n + m ≤ Question.cut (.appendCap (n + m) c e) tt := by show n + m ≤ n + m + _; omega
    generalize Question.cut (.appendCap (n + m) c e) tt = nc at hge
    rw [wk_bind, wk_typeInfo hi, wk_bind, wk_askRoom, wk_bind]
    refine wk_firstCells hrow (by rw [hlxs, Nat.mul_one]) _ ?_
    rw [wk_bind]
    refine app _ ?_
    rw [wk_bind, wk_zeroValue hi (hze.trans hzv), hzc, zeroCells_one]
    simp only [newRow, wk_bind, wk_pure]
    refine run_new ⟨fun b hb => ?_⟩
    refine hk _ _ ⟨by simp [hlxs], .inr ⟨b, nc, _, rfl, Live.put _ _ _ _, ?_, hge, ?_⟩⟩ ((Ext.new hb _).keeps _) (fun b' hb' => .inr ?_)
    · simp [hlxs]; omega
    · rw [Array.toList_append, Array.toList_append, List.toList_toArray, List.toList_toArray, List.take_left']
      simp [hlxs]
    · obtain rfl : b = b' := Option.some.inj hb'
      exact hb
theorem run_eq4 {P : Program} (w : World) (d : Nat) (t e : TypeId) (k : IntKind) (i : TypeInfo) (a0 a1 a2 a3 b0 b1 b2 b3 : Int) (hu : P.underlying t = some (.array 4 e)) (he : P.underlying e = some (.int k)) (hi : P.info? e = some i) (hs : i.size = 1) :
    (Op.equalIn (d + 2) t (.agg #[.int k a0, .int k a1, .int k a2, .int k a3]) (.agg #[.int k b0, .int k b1, .int k b2, .int k b3])).run P w = .ok (a0 == b0 && (a1 == b1 && (a2 == b2 && a3 == b3))) w := by
  have hp : ∀ (xs : Array Value) (j : Nat) (v : Value), xs[j]? = some v → (part e xs j).run P w = .ok v w := by
    intro xs j v hv
    have h1 : (isAgg e).run P w = .ok false w := by
      unfold isAgg
      rw [Sem.run_bind, run_underlying he, Result.andThen_ok]
      rfl
    unfold part
    rw [Sem.run_bind, h1, Result.andThen_ok]
    simp [hv, Sem.run_pure]
  have hz : (sizeOf e).run P w = .ok 1 w := by simp [sizeOf, typeInfo, hi, hs, Sem.run_pure]
  have hq : ∀ a b : Int, (Op.equalIn (d + 1) e (.int k a) (.int k b)).run P w = .ok (a == b) w := fun a b => run_equalIn_int w d e k k a b he
  rw [Op.equalIn]
  simp only [Sem.run_bind, run_underlying hu, Result.andThen_ok, hz]
  simp only [Std.Legacy.Range.forIn_eq_forIn_range', Std.Legacy.Range.size]
  simp only [Nat.sub_zero, Nat.add_sub_cancel, Nat.div_one, List.range', List.forIn_cons, List.forIn_nil]
  have pa0 := hp (#[.int k a0, .int k a1, .int k a2, .int k a3] : Array Value) (0 * 1) (.int k a0) rfl
  have pb0 := hp (#[.int k b0, .int k b1, .int k b2, .int k b3] : Array Value) (0 * 1) (.int k b0) rfl
  have pa1 := hp (#[.int k a0, .int k a1, .int k a2, .int k a3] : Array Value) ((0 + 1) * 1) (.int k a1) rfl
  have pb1 := hp (#[.int k b0, .int k b1, .int k b2, .int k b3] : Array Value) ((0 + 1) * 1) (.int k b1) rfl
  have pa2 := hp (#[.int k a0, .int k a1, .int k a2, .int k a3] : Array Value) ((0 + 1 + 1) * 1) (.int k a2) rfl
  have pb2 := hp (#[.int k b0, .int k b1, .int k b2, .int k b3] : Array Value) ((0 + 1 + 1) * 1) (.int k b2) rfl
  have pa3 := hp (#[.int k a0, .int k a1, .int k a2, .int k a3] : Array Value) ((0 + 1 + 1 + 1) * 1) (.int k a3) rfl
  have pb3 := hp (#[.int k b0, .int k b1, .int k b2, .int k b3] : Array Value) ((0 + 1 + 1 + 1) * 1) (.int k b3) rfl
  have q0 := hq a0 b0
  generalize (a0 == b0) = c0 at q0 ⊢
  have q1 := hq a1 b1
  generalize (a1 == b1) = c1 at q1 ⊢
  have q2 := hq a2 b2
  generalize (a2 == b2) = c2 at q2 ⊢
  have q3 := hq a3 b3
  generalize (a3 == b3) = c3 at q3 ⊢
  cases c0 <;> cases c1 <;> cases c2 <;> cases c3 <;> simp only [Sem.run_bind, pa0, pa1, pa2, pa3, pb0, pb1, pb2, pb3, q0, q1, q2, q3, Result.andThen_ok, Sem.run_pure, Bool.not_true, Bool.not_false, Bool.false_eq_true, if_true, if_false, Bool.and_true, Bool.and_false, Bool.false_and, Bool.true_and, Bool.and_self]
/-- Two arrays of four whole numbers, held against each other. -/
theorem op_eq4 {P : Program} {T : Tab} (hT : TabOk P T) {o : Oper} {ev : Operand → Value} {F : Heap} {K : Value → Heap → Prop} {t e : TypeId} {x y : Operand} {t' : TypeId} {k : IntKind} {a1' a2' : Nat} {z1 : Option Value} {b2' : Nat} {z2 : Option Value} (a0 a1 a2 a3 b0 b1 b2 b3 : Int)
    (ho : o.op = .binOp .eql t x y t') (hx : ev x = .agg #[.int k a0, .int k a1, .int k a2, .int k a3]) (hy : ev y = .agg #[.int k b0, .int k b1, .int k b2, .int k b3]) (h1 : T t = some ⟨a1', a2', .array 4 e, z1⟩) (h2 : T e = some ⟨1, b2', .int k, z2⟩) (hg : P.eqGuardType P.depth t = false)
    (hk : K (.bool (a0 == b0 && (a1 == b1 && (a2 == b2 && a3 == b3)))) F) : OpK P o ev F K := by
  obtain ⟨hu1, _⟩ := hT _ _ h1
  obtain ⟨hu2, i, hi, hs, _⟩ := hT _ _ h2
  refine op_run (F' := F) (s := (do eqGuard .eql t x y (ev x) (ev y); binOp .eql t (ev x) (ev y))) (by simp only [execOp, ho]) (fun w hw => ⟨w, ?_, hw, Rest.refl w⟩) hk
  rw [hx, hy, Sem.run_bind, run_eqGuard_agg w .eql t x y _ _ hg, Result.andThen_ok, run_eql_struct w t]
  rw [show (10000 : Nat) = 9998 + 2 from rfl, run_eq4 w 9998 t e k i a0 a1 a2 a3 b0 b1 b2 b3 hu1 hu2 hi hs]
  rfl
end Go.Al

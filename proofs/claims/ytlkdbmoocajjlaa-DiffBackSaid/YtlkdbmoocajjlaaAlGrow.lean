/- The logic of a known part of memory, 17: rows of structs: an append of zeros that grows, a copy to a place of a row. -/
import Derived.Test.YtlkdbmoocajjlaaAlStruct
namespace Go.Al
open Go
theorem copy_rows {P : Program} {T : Tab} (hT : TabOk P T) {o : Oper} {ev : Operand → Value} {F : Heap} {K : Value → Heap → Prop} {t u e e' : TypeId} {p q : Operand} {g off dl dc m c : Nat} {A : Option Addr} {ys : List Value} {cur : Array Value} {fz : Nat × Nat} {a1 a2 : Nat} {z1 : Option Value} {d : TD} {N : Nat}
    (ho : o.op = .call ⟨.builtin .copy, #[p, q], #[t, u]⟩) (hp : ev p = .slice (some ⟨g, off, none⟩) dl dc) (hq : ev q = .slice A m c) (h1 : T t = some ⟨a1, a2, .slice e, z1⟩) (h2 : T e = some d)
    (hr : RowAt F A ys) (hl : ys.length = N * d.size) (hg : F g = some (.cells cur e' fz)) (hfz : fz.2 ≤ fz.1 ∨ cur.size ≤ fz.1) (hN : N = min m dl) (hsz : off + N * d.size ≤ cur.size) (hone : ∀ v ∈ ys, v.oneCell' = true)
    (hk : K (.int .i64 (N : Nat)) (F.put g (.cells (putL cur.toList off ys).toArray e' fz))) : OpK P o ev F K := by
  subst hN
  obtain ⟨hu1, _⟩ := hT _ _ h1
  obtain ⟨_, i, hi, hs, _, _⟩ := hT _ _ h2
  refine ⟨opW_v (s := Builtin.copy_ #[t, u] o.type #[.slice (some ⟨g, off, none⟩) dl dc, .slice A m c]) (by simp [execOp, ho, resolve, invoke, builtin, hp, hq]) ?_⟩
  unfold Builtin.copy_
  simp only [List.getElem?_toArray, List.getElem?_cons_zero, List.getElem?_cons_succ]
  rw [wk_bind, wk_underlying hu1]
  dsimp only
  rw [wk_bind]
  rw [show Builtin.lenOf (.slice A m c) = (pure m : Sem Nat) from rfl, wk_pure, show Nat.min m dl = min m dl from rfl, wk_bind, wk_sizeOf hi, hs, wk_bind]
  refine wk_firstCells hr hl _ ?_
  simp only [wk_bind]
  refine wk_storeCells (a := ⟨g, off, none⟩) (e := e') (fz := fz) rfl ys 0 F cur _ hg (by rw [hl]; show off + 0 + min m dl * d.size ≤ _; omega) (hfz.imp id fun h => by rw [hl]; show off + 0 + min m dl * d.size ≤ fz.1; omega) hone ?_
  exact hk
theorem call_args {P : Program} {f : FuncId} {xs xs' : Array Value} {F : Heap} {K : Value → Heap → Prop} (e : xs = xs') (h : CallK P f xs' F K) : CallK P f xs F K := e ▸ h
theorem append_grow {P : Program} {T : Tab} (hT : TabOk P T) {o : Oper} {ev : Operand → Value} {F : Heap} {t u : TypeId} {p q : Operand} (ho : o.op = .call ⟨.builtin .append, #[p, q], #[t, u]⟩) {e : TypeId} {tsz tb : Nat} {tz : Option Value} {d : TD} {A : Option Addr} {n m c : Nat} {k : IntKind} {xs : List Value} {K : Value → Heap → Prop}
    (hp : ev p = .slice A n c) (hq : ev q = .int .i64 m) (ht : T t = some ⟨tsz, tb, .slice e, tz⟩) (he : T e = some d) (hu : ∃ du, T u = some du ∧ du.desc = .int k) (hz : ∃ zv, d.zero = some zv ∧ zv.cells.size = d.size) (hb0 : 0 < d.bytes)
    (hrow : RowAt F A xs) (hlxs : xs.length = n * d.size) (hcn : c < n + m) (hm0 : 0 < m) (hd0 : 0 < d.size) (hlim : 2 * (n + m) * d.bytes ≤ 281474976710656)
    (hk : ∀ b nc cs, F b = none → n + m ≤ nc → cs.size = nc * d.size → cs.toList.take (n * d.size) = xs → K (.slice (some ⟨b, 0, none⟩) (n + m) nc) (F.put b (.cells cs e))) : OpK P o ev F K := by
  obtain ⟨hut, _⟩ := hT _ _ ht
  obtain ⟨_, i, hi, hsz, hby, hze⟩ := hT _ _ he
  obtain ⟨du, hdu, hk'⟩ := hu
  obtain ⟨huu, _⟩ := hT _ _ hdu
  obtain ⟨zv, hzv, hzs⟩ := hz
  have hm : n + m ≤ 281474976710656 := by
    have := Nat.le_mul_of_pos_right (2 * (n + m)) hb0
    omega
  refine ⟨opW_v (s := Builtin.append_ #[t, u] o.type #[.slice A n c, .int .i64 m]) (by simp [execOp, ho, resolve, invoke, builtin, hp, hq]) ?_⟩
  unfold Builtin.append_
  simp only [List.getElem?_toArray, List.getElem?_cons_zero, List.getElem?_cons_succ]
  rw [wk_bind, wk_underlying hut]
  dsimp only
  rw [wk_bind, wk_sizeOf hi, hsz, wk_bind]
  rw [wk_underlying huu, wk_bind, wk_pure, hk']
  dsimp only
  have hw : IntKind.i64.wrap (m : Int) = m := by rw [IntKind.wrap_i64]; omega
  have hmb : ¬ ((m : Int) * (d.bytes : Int) > 2 ^ 48) := by
    have : m * d.bytes ≤ 281474976710656 := Nat.le_trans (Nat.mul_le_mul_right _ (by omega)) hlim
    have : ((m * d.bytes : Nat) : Int) ≤ ((281474976710656 : Nat) : Int) := Int.ofNat_le.2 this
    rw [Int.natCast_mul] at this
    omega
  simp only [if_true, asInt, asIntOf, wk_bind, wk_pure, hw]
  rw [if_neg (by omega)]
  simp only [wk_bind, wk_typeInfo hi, hby]
  rw [if_neg hmb]
  simp only [wk_bind, wk_pure, Int.toNat_natCast, Bool.not_true, Bool.false_eq_true, if_false]
  have app : ∀ (L : Array Value → Heap → Prop), L (Builtin.zeroCells zv.cells m) F → wk P (if m * d.size = 0 then pure #[] else do pure (Builtin.zeroCells (← zeroValue e).cells m) : Sem (Array Value)) F L := by
    intro L hL
    rw [if_neg (by have := Nat.mul_pos hm0 hd0; omega), wk_bind, wk_zeroValue hi (hze.trans hzv), wk_pure]
    exact hL
  rw [if_neg (by omega : ¬ n + m ≤ c)]
  have hcap := nextslicecap_le (need := n + m) (old := c) (by omega)
  rw [wk_bind, wk_typeInfo hi]
  rw [if_neg (by rw [hby]; simp [IntKind.max, IntKind.signed, IntKind.bits]; omega)]
  rw [wk_bind, wk_typeInfo hi]
  rw [if_neg (by rw [hby]; have := Nat.mul_le_mul_right d.bytes hcap; omega)]
  rw [wk_bind]
  refine wk_choose fun nc _ hch => ?_
  obtain ⟨tt, rfl⟩ := hch rfl
  have hge : n + m ≤ Question.cut (.appendCap (n + m) c e) tt := by show n + m ≤ n + m + _; omega
  generalize Question.cut (.appendCap (n + m) c e) tt = nc at hge
  rw [wk_bind, wk_typeInfo hi, wk_bind, wk_askRoom, wk_bind]
  refine wk_firstCells hrow hlxs _ ?_
  rw [wk_bind]
  refine app _ ?_
  rw [wk_bind, wk_zeroValue hi (hze.trans hzv)]
  simp only [newRow, wk_bind, wk_pure]
  refine run_new ⟨fun b hb => ?_⟩
  refine hk b nc _ hb hge ?_ ?_
  · simp only [Array.size_append, List.size_toArray, zeroCells_size, hzs, hlxs]
    rw [← Nat.add_mul, ← Nat.add_mul]
    congr 1
    omega
  · rw [Array.toList_append, Array.toList_append, List.toList_toArray, List.append_assoc]
    exact List.take_left' hlxs
end Go.Al

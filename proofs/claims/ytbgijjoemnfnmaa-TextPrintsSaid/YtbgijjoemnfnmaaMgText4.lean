/- Texts of this claim, joined: AlGrow TxtB TxtSame2 TxtC TxtD TxtE TxtF TxtG TxtH TxtI. -/
import Derived.Test.YtbgijjoemnfnmaaMgText1
import Derived.Test.YtbgijjoemnfnmaaMgText2
import Derived.Test.YtbgijjoemnfnmaaMgText3
import Derived.Lib.Bytealg
/- The logic of a known part of memory, 17: rows of structs: an append of zeros that grows, a copy to a place of a row. -/
namespace Go.Al
open Go
theorem copy_rows {P : Program} {T : Tab} (hT : TabOk P T) {o : Oper} {ev : Operand → Value} {F : Heap} {K : Value → Heap → Prop} {t u e e' : TypeId} {p q : Operand} {g off dl dc m c : Nat} {A : Option Addr} {ys : List Value} {cur : Array Value} {fz : Nat × Nat} {a1 a2 : Nat} {z1 : Option Value} {d : TD} {N : Nat}
    (ho : o.op = .call ⟨.builtin .copy, #[p, q], #[t, u]⟩) (hp : ev p = .slice (some ⟨g, off, none⟩) dl dc) (hq : ev q = .slice A m c) (h1 : T t = some ⟨a1, a2, .slice e, z1⟩) (h2 : T e = some d)
    (hr : RowAt F A ys) (hl : ys.length = N * d.size) (hg : F g = some (.cells cur e' fz)) (hfz : fz.2 ≤ fz.1 ∨ cur.size ≤ fz.1) (hN : N = min m dl) (hsz : off + N * d.size ≤ cur.size) (hone : ∀ v ∈ ys, v.oneCell' = true)
    (hk : K (.int .i64 (N : Nat)) (F.put g (.cells (putL cur.toList off ys).toArray e' fz))) : OpK P o ev F K := by
  subst hN
  obtain ⟨hu1, _⟩ := hT _ _ h1
  obtain ⟨_, i, hi, hs, _, _⟩ := hT _ _ h2
  refine ⟨opW_v (s := Builtin.copy_ #[t, u] o.type #[.slice (some ⟨g, off, none⟩) dl dc, .slice A m c]) (by simp [execOp, ho, resolve, invoke, builtin, hp, hq]) ?_⟩
  unfold Builtin.copy_
  simp only [List.getElem?_toArray, List.getElem?_cons_zero, List.getElem?_cons_succ]
  rw [wk_bind, wk_underlying hu1]
  dsimp only
  rw [wk_bind]
  rw [show Builtin.lenOf (.slice A m c) = (pure m : Sem Nat) from rfl, wk_pure, show Nat.min m dl = min m dl from rfl, wk_bind, wk_sizeOf hi, hs, wk_bind]
  refine wk_firstCells hr hl _ ?_
  simp only [wk_bind]
  refine wk_storeCells (a := ⟨g, off, none⟩) (e := e') (fz := fz) rfl ys 0 F cur _ hg (by rw [hl]; show off + 0 + min m dl * d.size ≤ _; omega) (hfz.imp id fun h => by rw [hl]; show off + 0 + min m dl * d.size ≤ fz.1; omega) hone ?_
  exact hk
theorem call_args {P : Program} {f : FuncId} {xs xs' : Array Value} {F : Heap} {K : Value → Heap → Prop} (e : xs = xs') (h : CallK P f xs' F K) : CallK P f xs F K := e ▸ h
theorem append_grow {P : Program} {T : Tab} (hT : TabOk P T) {o : Oper} {ev : Operand → Value} {F : Heap} {t u : TypeId} {p q : Operand} (ho : o.op = .call ⟨.builtin .append, #[p, q], #[t, u]⟩) {e : TypeId} {tsz tb : Nat} {tz : Option Value} {d : TD} {A : Option Addr} {n m c : Nat} {k : IntKind} {xs : List Value} {K : Value → Heap → Prop}
    (hp : ev p = .slice A n c) (hq : ev q = .int .i64 m) (ht : T t = some ⟨tsz, tb, .slice e, tz⟩) (he : T e = some d) (hu : ∃ du, T u = some du ∧ du.desc = .int k) (hz : ∃ zv, d.zero = some zv ∧ zv.cells.size = d.size) (hb0 : 0 < d.bytes)
    (hrow : RowAt F A xs) (hlxs : xs.length = n * d.size) (hcn : c < n + m) (hm0 : 0 < m) (hd0 : 0 < d.size) (hlim : 2 * (n + m) * d.bytes ≤ 281474976710656)
    (hk : ∀ b nc cs, F b = none → n + m ≤ nc → cs.size = nc * d.size → cs.toList.take (n * d.size) = xs → K (.slice (some ⟨b, 0, none⟩) (n + m) nc) (F.put b (.cells cs e))) : OpK P o ev F K := by
  obtain ⟨hut, _⟩ := hT _ _ ht
  obtain ⟨_, i, hi, hsz, hby, hze⟩ := hT _ _ he
  obtain ⟨du, hdu, hk'⟩ := hu
  obtain ⟨huu, _⟩ := hT _ _ hdu
  obtain ⟨zv, hzv, hzs⟩ := hz
  have hm : n + m ≤ 281474976710656 := by
    have := Nat.le_mul_of_pos_right (2 * (n + m)) hb0
    omega
  refine ⟨opW_v (s := Builtin.append_ #[t, u] o.type #[.slice A n c, .int .i64 m]) (by simp [execOp, ho, resolve, invoke, builtin, hp, hq]) ?_⟩
  unfold Builtin.append_
  simp only [List.getElem?_toArray, List.getElem?_cons_zero, List.getElem?_cons_succ]
  rw [wk_bind, wk_underlying hut]
  dsimp only
  rw [wk_bind, wk_sizeOf hi, hsz, wk_bind]
  rw [wk_underlying huu, wk_bind, wk_pure, hk']
  dsimp only
  have hw : IntKind.i64.wrap (m : Int) = m := by rw [IntKind.wrap_i64]; omega
  have hmb : ¬ ((m : Int) * (d.bytes : Int) > 2 ^ 48) := by
    have : m * d.bytes ≤ 281474976710656 := Nat.le_trans (Nat.mul_le_mul_right _ (by omega)) hlim
    have : ((m * d.bytes : Nat) : Int) ≤ ((281474976710656 : Nat) : Int) := Int.ofNat_le.2 this
    rw [Int.natCast_mul] at this
    omega
  simp only [if_true, asInt, asIntOf, wk_bind, wk_pure, hw]
  rw [if_neg (by omega)]
  simp only [wk_bind, wk_typeInfo hi, hby]
  rw [if_neg hmb]
  simp only [wk_bind, wk_pure, Int.toNat_natCast, Bool.not_true, Bool.false_eq_true, if_false]
  have app : ∀ (L : Array Value → Heap → Prop), L (Builtin.zeroCells zv.cells m) F → wk P (if m * d.size = 0 then pure #[] else do pure (Builtin.zeroCells (← zeroValue e).cells m) : Sem (Array Value)) F L := by
    intro L hL
    rw [if_neg (by have := Nat.mul_pos hm0 hd0; omega), wk_bind, wk_zeroValue hi (hze.trans hzv), wk_pure]
    exact hL
  rw [if_neg (by omega : ¬ n + m ≤ c)]
  have hcap := nextslicecap_le (need := n + m) (old := c) (by omega)
  rw [wk_bind, wk_typeInfo hi]
  rw [if_neg (by rw [hby]; simp [IntKind.max, IntKind.signed, IntKind.bits]; omega)]
  rw [wk_bind, wk_typeInfo hi]
  rw [if_neg (by rw [hby]; have := Nat.mul_le_mul_right d.bytes hcap; omega)]
  rw [wk_bind]
  refine wk_choose fun nc _ hch => ?_
  obtain ⟨tt, rfl⟩ := hch rfl
  have hge : n + m ≤ Question.cut (.appendCap (n + m) c e) tt := by show n + m ≤ n + m + _; omega
  generalize Question.cut (.appendCap (n + m) c e) tt = nc at hge
  rw [wk_bind, wk_typeInfo hi, wk_bind, wk_askRoom, wk_bind]
  refine wk_firstCells hrow hlxs _ ?_
  rw [wk_bind]
  refine app _ ?_
  rw [wk_bind, wk_zeroValue hi (hze.trans hzv)]
  simp only [newRow, wk_bind, wk_pure]
  refine run_new ⟨fun b hb => ?_⟩
  refine hk b nc _ hb hge ?_ ?_
  · simp only [Array.size_append, List.size_toArray, zeroCells_size, hzs, hlxs]
    rw [← Nat.add_mul, ← Nat.add_mul]
    congr 1
    omega
  · rw [Array.toList_append, Array.toList_append, List.toList_toArray, List.append_assoc]
    exact List.take_left' hlxs
end Go.Al
/- strings.Cut at a blank, strings.CutPrefix of a minus, slices.Index and Equal of strings, over what is known of memory. -/
namespace Go.Proofs.Ytbgijjoemnfnmaa.Al
open Go Go.Al Go.Proofs Go.RowKit
set_option maxHeartbeats 8000000
set_option maxRecDepth 100000
set_option linter.unusedVariables false
set_option linter.unusedSimpArgs false
abbrev str (l : List UInt8) : Value := .string ⟨l.toArray⟩
theorem str_cut (l : List UInt8) (a b : Nat) : (⟨l.toArray⟩ : ByteArray).extract a b = ⟨((l.drop a).take (b - a)).toArray⟩ := by
  apply ByteArray.ext
  apply Array.ext'
  simp [List.extract]
theorem str_beq (a b : List UInt8) : ((⟨a.toArray⟩ : ByteArray).toList == (⟨b.toArray⟩ : ByteArray).toList) = (a == b) := by
  have : ∀ c : List UInt8, (⟨c.toArray⟩ : ByteArray).toList = c := fun c => by rw [ByteArray.toList_eq]
  rw [this, this]
/-- The first word, what is behind it, and whether there is a blank. -/
def cutL : List UInt8 → List UInt8 × List UInt8 × Bool
  | [] => ([], [], false)
  | b :: l => if b = 32 then ([], l, true) else (b :: (cutL l).1, (cutL l).2.1, (cutL l).2.2)
theorem cutL_cons (b : UInt8) (l : List UInt8) : cutL (b :: l) = if b = 32 then ([], l, true) else (b :: (cutL l).1, (cutL l).2.1, (cutL l).2.2) := rfl
theorem cutL_idx : ∀ l : List UInt8, (Lib.indexByte l 32 = -1 ∧ cutL l = (l, [], false)) ∨ ∃ i : Nat, Lib.indexByte l 32 = i ∧ i < l.length ∧ cutL l = (l.take i, l.drop (i + 1), true)
  | [] => .inl ⟨rfl, rfl⟩
  | b :: l => by
    have ih := cutL_idx l
    have e : Lib.indexByte (b :: l) 32 = if b == 32 then 0 else if Lib.indexByte l 32 == -1 then -1 else Lib.indexByte l 32 + 1 := rfl
    rw [e, cutL_cons]
    by_cases h : b = 32
    · rw [if_pos h, if_pos (by rw [h]; rfl)]
      exact .inr ⟨0, rfl, by simp, rfl⟩
    · rw [if_neg h, if_neg (by rw [beq_iff_eq]; exact h)]
      rcases ih with ⟨h1, h2⟩ | ⟨i, h1, h2, h3⟩
      · rw [h1, if_pos (show ((-1 : Int) == -1) = true from rfl), h2]
        exact .inl ⟨rfl, rfl⟩
      · rw [h1, if_neg (by rw [beq_iff_eq]; omega), h3]
        exact .inr ⟨i + 1, by omega, by simp only [List.length_cons]; omega, rfl⟩
theorem idxStr {F : Heap} {l : List UInt8} {K : Value → Heap → Prop} (hk : K (.int .i64 (Lib.indexByte l 32)) F) : CallK Try.prog 87 #[str l, .int .u8 32] F K := by
  refine ⟨?_⟩
  have e1 : ∃ fn, Try.prog.funcs[87]? = some fn ∧ (fn.name == "runtime.NumGoroutine") = false ∧ fn.body = none ∧ Extern.findNext fn = none ∧ Extern.find fn = some Extern.BytealgIndexByte.indexByte := ⟨_, Try.func87, by kernel_rfl, rfl, by kernel_rfl, by kernel_rfl⟩
  obtain ⟨fn, hf, h1, h2, h3, h4⟩ := e1
  have hfi := Lib.firstIdx_eq ⟨l.toArray⟩ 32
  have hdef : Extern.BytealgIndexByte.indexByte #[str l, .int .u8 32] = (do
      let b ← Extern.Bytes.bytesOf (str l)
      let c ← Extern.Bytes.asByte (.int .u8 32)
      match (List.range b.size).find? fun i => b[i]! == c with
      | some i => pure (goInt i)
      | none => pure (goInt (-1))) := rfl
  simp only [callFunc, wk_bind, wk_program, hf, h1, h2, Bool.false_eq_true, if_false, h3, h4, wk_mark, Option.isNone_none, if_true, hdef, Extern.Bytes.bytesOf, Extern.Bytes.asByte, wk_pure]
  unfold firstIdx at hfi
  have hk' : K (goInt (Lib.indexByte l 32)) F := hk
  rw [← show (⟨l.toArray⟩ : ByteArray).data.toList = l from rfl, ← hfi] at hk'
  rw [show (Int.toNat 32).toUInt8 = 32 from rfl]
  revert hk'
  cases List.find? (fun i => (⟨l.toArray⟩ : ByteArray)[i]! == 32) (List.range (⟨l.toArray⟩ : ByteArray).size) with
  | none => exact fun h => h
  | some i => exact fun h => h
theorem index (l : List UInt8) (F : Heap) : FnK Try.prog 64 #[str l, .string ⟨#[32]⟩] F (fun v F' => v = .int .i64 (Lib.indexByte l 32) ∧ F' = F) := by
  have hb : FnK Try.prog 75 #[str l, .int .u8 32] F (fun v F' => v = .int .i64 (Lib.indexByte l 32) ∧ F' = F) := by
    generalize hz : Lib.indexByte l 32 = z
    (refine fn_walk tab_ok Try.func75 rfl rfl rfl rfl ?_; (conv => whnf))
    ((conv => whnf); repeat (first | (apply load_at; (conv => lhs; whnf); (with_reducible assumption); rfl; (conv => whnf)) | (apply load_at; (conv => lhs; rw [add_plain, add_plain]); (with_reducible assumption); rfl; (conv => whnf)) | (apply loads_at; (conv => lhs; whnf); (with_reducible assumption); rfl; (conv => whnf)) | (refine ⟨⟨by omega, by omega⟩, ?_⟩; (conv => whnf))))
    refine idxStr ?_
    rw [hz]
    ((conv => whnf); repeat (first | (apply load_at; (conv => lhs; whnf); (with_reducible assumption); rfl; (conv => whnf)) | (apply load_at; (conv => lhs; rw [add_plain, add_plain]); (with_reducible assumption); rfl; (conv => whnf)) | (apply loads_at; (conv => lhs; whnf); (with_reducible assumption); rfl; (conv => whnf)) | (refine ⟨⟨by omega, by omega⟩, ?_⟩; (conv => whnf))))
    exact ⟨rfl, rfl⟩
  obtain ⟨z, hz⟩ : ∃ z, z = Lib.indexByte l 32 := ⟨_, rfl⟩
  rw [← hz] at hb ⊢
  have hq := str_beq [32] l
  (refine fn_walk tab_ok Try.func64 rfl rfl rfl rfl ?_; (conv => whnf))
  ((conv => whnf); repeat (first | (apply load_at; (conv => lhs; whnf); (with_reducible assumption); rfl; (conv => whnf)) | (apply load_at; (conv => lhs; rw [add_plain, add_plain]); (with_reducible assumption); rfl; (conv => whnf)) | (apply loads_at; (conv => lhs; whnf); (with_reducible assumption); rfl; (conv => whnf)) | (refine ⟨⟨by omega, by omega⟩, ?_⟩; (conv => whnf))))
  refine cond_split (fun h => ?_) (fun h => ?_)
  · have h : ((⟨[32].toArray⟩ : ByteArray).toList == (⟨l.toArray⟩ : ByteArray).toList) = true := h
    rw [hq, beq_iff_eq] at h
    have h0 : z = 0 := by rw [hz, ← h]; rfl
    ((conv => whnf); repeat (first | (apply load_at; (conv => lhs; whnf); (with_reducible assumption); rfl; (conv => whnf)) | (apply load_at; (conv => lhs; rw [add_plain, add_plain]); (with_reducible assumption); rfl; (conv => whnf)) | (apply loads_at; (conv => lhs; whnf); (with_reducible assumption); rfl; (conv => whnf)) | (refine ⟨⟨by omega, by omega⟩, ?_⟩; (conv => whnf))))
    exact ⟨by rw [h0]; rfl, rfl⟩
  · ((conv => whnf); repeat (first | (apply load_at; (conv => lhs; whnf); (with_reducible assumption); rfl; (conv => whnf)) | (apply load_at; (conv => lhs; rw [add_plain, add_plain]); (with_reducible assumption); rfl; (conv => whnf)) | (apply loads_at; (conv => lhs; whnf); (with_reducible assumption); rfl; (conv => whnf)) | (refine ⟨⟨by omega, by omega⟩, ?_⟩; (conv => whnf))))
    refine ⟨by decide, fun b hb0 => ?_⟩
    obtain rfl : b = 32 := by
      have : (⟨#[32]⟩ : ByteArray)[Int.toNat 0]? = some 32 := rfl
      rw [this] at hb0
      exact (Option.some.inj hb0).symm
    ((conv => whnf); repeat (first | (apply load_at; (conv => lhs; whnf); (with_reducible assumption); rfl; (conv => whnf)) | (apply load_at; (conv => lhs; rw [add_plain, add_plain]); (with_reducible assumption); rfl; (conv => whnf)) | (apply loads_at; (conv => lhs; whnf); (with_reducible assumption); rfl; (conv => whnf)) | (refine ⟨⟨by omega, by omega⟩, ?_⟩; (conv => whnf))))
    refine call_of hb ?_
    rintro v F1 ⟨rfl, rfl⟩
    ((conv => whnf); repeat (first | (apply load_at; (conv => lhs; whnf); (with_reducible assumption); rfl; (conv => whnf)) | (apply load_at; (conv => lhs; rw [add_plain, add_plain]); (with_reducible assumption); rfl; (conv => whnf)) | (apply loads_at; (conv => lhs; whnf); (with_reducible assumption); rfl; (conv => whnf)) | (refine ⟨⟨by omega, by omega⟩, ?_⟩; (conv => whnf))))
    exact ⟨rfl, rfl⟩
theorem cut (l : List UInt8) (hl : l.length ≤ 1000000) (F : Heap) : FnK Try.prog 29 #[str l, .string ⟨#[32]⟩] F (fun v F' => v = .tuple #[str (cutL l).1, str (cutL l).2.1, .bool (cutL l).2.2] ∧ F' = F) := by
  have hi := index l F
  have hc : FnK Try.prog 49 #[str l, .string ⟨#[32]⟩] F (fun v F' => v = .tuple #[str (cutL l).1, str (cutL l).2.1, .bool (cutL l).2.2] ∧ F' = F) := by
    rcases cutL_idx l with ⟨h1, h2⟩ | ⟨i, h1, h2, h3⟩
    · rw [h1] at hi
      rw [h2]
      (refine fn_walk tab_ok Try.func49 rfl rfl rfl rfl ?_; (conv => whnf))
      refine call_of hi ?_
      rintro v F1 ⟨rfl, rfl⟩
      ((conv => whnf); repeat (first | (apply load_at; (conv => lhs; whnf); (with_reducible assumption); rfl; (conv => whnf)) | (apply load_at; (conv => lhs; rw [add_plain, add_plain]); (with_reducible assumption); rfl; (conv => whnf)) | (apply loads_at; (conv => lhs; whnf); (with_reducible assumption); rfl; (conv => whnf)) | (refine ⟨⟨by omega, by omega⟩, ?_⟩; (conv => whnf))))
      exact ⟨rfl, rfl⟩
    · rw [h1] at hi
      rw [h3]
      have hw : IntKind.i64.wrap ((i : Int) + 1) = ((i + 1 : Nat) : Int) := wrap_succ (by omega)
      have hs : (⟨l.toArray⟩ : ByteArray).size = l.length := rfl
      have e1 := str_cut l 0 i
      have e2 := str_cut l (i + 1) l.length
      rw [List.drop_zero, Nat.sub_zero] at e1
      rw [List.take_of_length_le (by rw [List.length_drop]; exact Nat.le_refl _)] at e2
      (refine fn_walk tab_ok Try.func49 rfl rfl rfl rfl ?_; (conv => whnf))
      refine call_of hi ?_
      rintro v F1 ⟨rfl, rfl⟩
      ((conv => whnf); repeat (first | (apply load_at; (conv => lhs; whnf); (with_reducible assumption); rfl; (conv => whnf)) | (apply load_at; (conv => lhs; rw [add_plain, add_plain]); (with_reducible assumption); rfl; (conv => whnf)) | (apply loads_at; (conv => lhs; whnf); (with_reducible assumption); rfl; (conv => whnf)) | (refine ⟨⟨by omega, by omega⟩, ?_⟩; (conv => whnf))))
      refine draw_walk tab_ok (by kernel_rfl) [0, 1, 2, 3, 4, 5, 6, 7, 8, 9, 10, 11] (by kernel_rfl) ?_
      ((conv => whnf); repeat (first | (apply load_at; (conv => lhs; whnf); (with_reducible assumption); rfl; (conv => whnf)) | (apply load_at; (conv => lhs; rw [add_plain, add_plain]); (with_reducible assumption); rfl; (conv => whnf)) | (apply loads_at; (conv => lhs; whnf); (with_reducible assumption); rfl; (conv => whnf)) | (refine ⟨⟨by omega, by omega⟩, ?_⟩; (conv => whnf))))
      have hw2 : IntKind.i64.wrap ((i : Int) + (((⟨#[32]⟩ : ByteArray).size : Nat) : Int)) = ((i + 1 : Nat) : Int) := hw
      refine ⟨by rw [hw2, hs]; omega, ?_⟩
      ((conv => whnf); repeat (first | (apply load_at; (conv => lhs; whnf); (with_reducible assumption); rfl; (conv => whnf)) | (apply load_at; (conv => lhs; rw [add_plain, add_plain]); (with_reducible assumption); rfl; (conv => whnf)) | (apply loads_at; (conv => lhs; whnf); (with_reducible assumption); rfl; (conv => whnf)) | (refine ⟨⟨by omega, by omega⟩, ?_⟩; (conv => whnf))))
      refine ⟨?_, rfl⟩
      show Value.tuple #[.string ((⟨l.toArray⟩ : ByteArray).extract 0 i), .string ((⟨l.toArray⟩ : ByteArray).extract (Int.toNat (IntKind.i64.wrap ((i : Int) + (((⟨#[32]⟩ : ByteArray).size : Nat) : Int)))) l.length), .bool true] = _
      rw [hw2, Int.toNat_natCast, e1, e2]
  generalize cutL l = p at hc
  (refine fn_walk tab_ok Try.func29 rfl rfl rfl rfl ?_; (conv => whnf))
  ((conv => whnf); repeat (first | (apply load_at; (conv => lhs; whnf); (with_reducible assumption); rfl; (conv => whnf)) | (apply load_at; (conv => lhs; rw [add_plain, add_plain]); (with_reducible assumption); rfl; (conv => whnf)) | (apply loads_at; (conv => lhs; whnf); (with_reducible assumption); rfl; (conv => whnf)) | (refine ⟨⟨by omega, by omega⟩, ?_⟩; (conv => whnf))))
  refine call_of hc ?_
  rintro v F1 ⟨rfl, rfl⟩
  ((conv => whnf); repeat (first | (apply load_at; (conv => lhs; whnf); (with_reducible assumption); rfl; (conv => whnf)) | (apply load_at; (conv => lhs; rw [add_plain, add_plain]); (with_reducible assumption); rfl; (conv => whnf)) | (apply loads_at; (conv => lhs; whnf); (with_reducible assumption); rfl; (conv => whnf)) | (refine ⟨⟨by omega, by omega⟩, ?_⟩; (conv => whnf))))
  exact ⟨rfl, rfl⟩
/-- A word without its minus. -/
def minusL : List UInt8 → List UInt8 × Bool
  | [] => ([], false)
  | b :: l => if b = 45 then (l, true) else (b :: l, false)
theorem cutMinus (l : List UInt8) (F : Heap) : FnK Try.prog 50 #[str l, .string ⟨#[45]⟩] F (fun v F' => v = .tuple #[str (minusL l).1, .bool (minusL l).2] ∧ F' = F) := by
  have hp : FnK Try.prog 79 #[str l, .string ⟨#[45]⟩] F (fun v F' => v = .bool (minusL l).2 ∧ F' = F) := by
    cases l with
    | nil =>
      (refine fn_walk tab_ok Try.func79 rfl rfl rfl rfl ?_; (conv => whnf))
      exact ⟨rfl, rfl⟩
    | cons b l =>
      have hm : (minusL (b :: l)).2 = decide (b = 45) := by
        show (if b = 45 then (l, true) else (b :: l, false)).2 = _
        split
        · next h => rw [decide_eq_true h]
        · next h => rw [decide_eq_false h]
      have hs : (⟨(b :: l).toArray⟩ : ByteArray).size = l.length + 1 := rfl
      have e1 := str_cut (b :: l) 0 1
      have hq := str_beq [b] [45]
      rw [hm]
      (refine fn_walk tab_ok Try.func79 rfl rfl rfl rfl ?_; (conv => whnf))
      refine cond_split (fun h => ?_) (fun h => ?_)
      case refine_2 =>
        have h : decide ((((⟨(b :: l).toArray⟩ : ByteArray).size : Nat) : Int) ≥ (((⟨#[45]⟩ : ByteArray).size : Nat) : Int)) = false := h
        have := of_decide_eq_false h
        rw [hs] at this
        exact absurd (show ((l.length + 1 : Nat) : Int) ≥ ((1 : Nat) : Int) by omega) this
      ((conv => whnf); repeat (first | (apply load_at; (conv => lhs; whnf); (with_reducible assumption); rfl; (conv => whnf)) | (apply load_at; (conv => lhs; rw [add_plain, add_plain]); (with_reducible assumption); rfl; (conv => whnf)) | (apply loads_at; (conv => lhs; whnf); (with_reducible assumption); rfl; (conv => whnf)) | (refine ⟨⟨by omega, by omega⟩, ?_⟩; (conv => whnf))))
      refine ⟨by rw [hs]; exact ⟨by decide, by show ((1 : Nat) : Int) ≤ _; omega⟩, ?_⟩
      ((conv => whnf); repeat (first | (apply load_at; (conv => lhs; whnf); (with_reducible assumption); rfl; (conv => whnf)) | (apply load_at; (conv => lhs; rw [add_plain, add_plain]); (with_reducible assumption); rfl; (conv => whnf)) | (apply loads_at; (conv => lhs; whnf); (with_reducible assumption); rfl; (conv => whnf)) | (refine ⟨⟨by omega, by omega⟩, ?_⟩; (conv => whnf))))
      refine ⟨congrArg Value.bool ?_, rfl⟩
      show (((⟨(b :: l).toArray⟩ : ByteArray).extract 0 1).toList == (⟨[45].toArray⟩ : ByteArray).toList) = _
      rw [e1]
      show ((⟨[b].toArray⟩ : ByteArray).toList == (⟨[45].toArray⟩ : ByteArray).toList) = _
      rw [hq, Bool.eq_iff_iff, beq_iff_eq, decide_eq_true_iff, List.cons.injEq]
      exact ⟨fun e => e.1, fun e => ⟨e, rfl⟩⟩
  have hc : FnK Try.prog 65 #[str l, .string ⟨#[45]⟩] F (fun v F' => v = .tuple #[str (minusL l).1, .bool (minusL l).2] ∧ F' = F) := by
    cases l with
    | nil =>
      (refine fn_walk tab_ok Try.func65 rfl rfl rfl rfl ?_; (conv => whnf))
      refine call_of hp ?_
      rintro v F1 ⟨rfl, rfl⟩
      ((conv => whnf); repeat (first | (apply load_at; (conv => lhs; whnf); (with_reducible assumption); rfl; (conv => whnf)) | (apply load_at; (conv => lhs; rw [add_plain, add_plain]); (with_reducible assumption); rfl; (conv => whnf)) | (apply loads_at; (conv => lhs; whnf); (with_reducible assumption); rfl; (conv => whnf)) | (refine ⟨⟨by omega, by omega⟩, ?_⟩; (conv => whnf))))
      exact ⟨rfl, rfl⟩
    | cons b l =>
      have hm : minusL (b :: l) = if b = 45 then (l, true) else (b :: l, false) := rfl
      have hs : (⟨(b :: l).toArray⟩ : ByteArray).size = l.length + 1 := rfl
      have e1 := str_cut (b :: l) 1 (l.length + 1)
      rw [hm] at hp ⊢
      by_cases hb : b = 45
      · rw [if_pos hb] at hp ⊢
        (refine fn_walk tab_ok Try.func65 rfl rfl rfl rfl ?_; (conv => whnf))
        refine call_of hp ?_
        rintro v F1 ⟨rfl, rfl⟩
        ((conv => whnf); repeat (first | (apply load_at; (conv => lhs; whnf); (with_reducible assumption); rfl; (conv => whnf)) | (apply load_at; (conv => lhs; rw [add_plain, add_plain]); (with_reducible assumption); rfl; (conv => whnf)) | (apply loads_at; (conv => lhs; whnf); (with_reducible assumption); rfl; (conv => whnf)) | (refine ⟨⟨by omega, by omega⟩, ?_⟩; (conv => whnf))))
        refine ⟨by rw [hs]; exact ⟨by decide, by show ((1 : Nat) : Int) ≤ _; omega⟩, ?_⟩
        ((conv => whnf); repeat (first | (apply load_at; (conv => lhs; whnf); (with_reducible assumption); rfl; (conv => whnf)) | (apply load_at; (conv => lhs; rw [add_plain, add_plain]); (with_reducible assumption); rfl; (conv => whnf)) | (apply loads_at; (conv => lhs; whnf); (with_reducible assumption); rfl; (conv => whnf)) | (refine ⟨⟨by omega, by omega⟩, ?_⟩; (conv => whnf))))
        refine ⟨?_, rfl⟩
        show Value.tuple #[.string ((⟨(b :: l).toArray⟩ : ByteArray).extract 1 (l.length + 1)), .bool true] = _
        rw [e1]
        show Value.tuple #[.string ⟨(l.take (l.length + 1 - 1)).toArray⟩, .bool true] = _
        rw [Nat.add_sub_cancel, List.take_length]
      · rw [if_neg hb] at hp ⊢
        (refine fn_walk tab_ok Try.func65 rfl rfl rfl rfl ?_; (conv => whnf))
        refine call_of hp ?_
        rintro v F1 ⟨rfl, rfl⟩
        ((conv => whnf); repeat (first | (apply load_at; (conv => lhs; whnf); (with_reducible assumption); rfl; (conv => whnf)) | (apply load_at; (conv => lhs; rw [add_plain, add_plain]); (with_reducible assumption); rfl; (conv => whnf)) | (apply loads_at; (conv => lhs; whnf); (with_reducible assumption); rfl; (conv => whnf)) | (refine ⟨⟨by omega, by omega⟩, ?_⟩; (conv => whnf))))
        exact ⟨rfl, rfl⟩
  generalize minusL l = p at hc
  (refine fn_walk tab_ok Try.func50 rfl rfl rfl rfl ?_; (conv => whnf))
  ((conv => whnf); repeat (first | (apply load_at; (conv => lhs; whnf); (with_reducible assumption); rfl; (conv => whnf)) | (apply load_at; (conv => lhs; rw [add_plain, add_plain]); (with_reducible assumption); rfl; (conv => whnf)) | (apply loads_at; (conv => lhs; whnf); (with_reducible assumption); rfl; (conv => whnf)) | (refine ⟨⟨by omega, by omega⟩, ?_⟩; (conv => whnf))))
  refine call_of hc ?_
  rintro v F1 ⟨rfl, rfl⟩
  ((conv => whnf); repeat (first | (apply load_at; (conv => lhs; whnf); (with_reducible assumption); rfl; (conv => whnf)) | (apply load_at; (conv => lhs; rw [add_plain, add_plain]); (with_reducible assumption); rfl; (conv => whnf)) | (apply loads_at; (conv => lhs; whnf); (with_reducible assumption); rfl; (conv => whnf)) | (refine ⟨⟨by omega, by omega⟩, ?_⟩; (conv => whnf))))
  exact ⟨rfl, rfl⟩
/-- Rows of texts. -/
def txV (ws : List (List UInt8)) : List Value := ws.map str
theorem txV_len (ws : List (List UInt8)) : (txV ws).length = ws.length := by unfold txV; rw [List.length_map]
theorem tx_cell {F : Heap} {ad : Addr} {ws : List (List UInt8)} {j : Nat} {w : List UInt8} (hr : RowAt F (some ad) (txV ws)) (hw : ws[j]? = some w) : F.cell? (ad.add (Int.toNat (j : Int) * 1)) = some (str w) := by
  rw [Int.toNat_natCast, Nat.mul_one]
  refine hr.cell ?_
  unfold txV
  rw [List.getElem?_map, hw]
  rfl
def idxW (w : List UInt8) : List (List UInt8) → Nat → Int
  | [], _ => -1
  | x :: l, i => if w = x then (i : Int) else idxW w l (i + 1)
theorem indexStr (ws : List (List UInt8)) (w : List UInt8) (A : Option Addr) (c : Nat) (F : Heap) (hr : RowAt F A (txV ws)) (hl : ws.length ≤ 1000) :
    FnK Try.prog 16 #[.slice A ws.length c, str w] F (fun v F' => v = .int .i64 (idxW w ws 0) ∧ F' = F) := by
  obtain ⟨res, hres⟩ : ∃ r, r = idxW w ws 0 := ⟨_, rfl⟩
  rw [← hres]
  (refine fn_walk tab_ok Try.func16 rfl rfl rfl rfl ?_; (conv => whnf))
  refine loop_slots [0, 1, 7, 8] (fun m vs F' => ∃ j : Nat, j + m = ws.length ∧ vs = [.slice A ws.length c, str w, .int .i64 (ws.length : Int), .int .i64 (j : Int)] ∧ res = idxW w (ws.drop j) j ∧ F' = F) ws.length ⟨0, by omega, rfl, hres, rfl⟩ ?_
  rintro m vs F2 ρ ⟨j, hm, rfl, hri, rfl⟩
  ((conv => whnf); repeat (first | (apply load_at; (conv => lhs; whnf); (with_reducible assumption); rfl; (conv => whnf)) | (apply load_at; (conv => lhs; rw [add_plain, add_plain]); (with_reducible assumption); rfl; (conv => whnf)) | (apply loads_at; (conv => lhs; whnf); (with_reducible assumption); rfl; (conv => whnf)) | (refine ⟨⟨by omega, by omega⟩, ?_⟩; (conv => whnf))))
  refine cond_split (fun h => ?_) (fun h => ?_)
  · have hj : j < ws.length := by have := of_decide_eq_true h; omega
    obtain ⟨ad, rfl⟩ := hr.some (by rw [txV_len]; omega)
    have hws : IntKind.i64.wrap ((j : Int) + 1) = ((j + 1 : Nat) : Int) := wrap_succ (by omega)
    have hdr : ws.drop j = ws[j] :: ws.drop (j + 1) := List.drop_eq_getElem_cons hj
    have hc := tx_cell hr (List.getElem?_eq_getElem hj)
    rw [hdr] at hri
    generalize ws[j] = x at hri hc
    replace hri : res = if w = x then (j : Int) else idxW w (ws.drop (j + 1)) (j + 1) := hri
    have hq := str_beq w x
    ((conv => whnf); repeat (first | (apply load_at; (conv => lhs; whnf); (with_reducible assumption); rfl; (conv => whnf)) | (apply load_at; (conv => lhs; rw [add_plain, add_plain]); (with_reducible assumption); rfl; (conv => whnf)) | (apply loads_at; (conv => lhs; whnf); (with_reducible assumption); rfl; (conv => whnf)) | (refine ⟨⟨by omega, by omega⟩, ?_⟩; (conv => whnf))))
    refine load_step hc ?_
    ((conv => whnf); repeat (first | (apply load_at; (conv => lhs; whnf); (with_reducible assumption); rfl; (conv => whnf)) | (apply load_at; (conv => lhs; rw [add_plain, add_plain]); (with_reducible assumption); rfl; (conv => whnf)) | (apply loads_at; (conv => lhs; whnf); (with_reducible assumption); rfl; (conv => whnf)) | (refine ⟨⟨by omega, by omega⟩, ?_⟩; (conv => whnf))))
    refine cond_split (fun h => ?_) (fun h => ?_)
    · have h : ((⟨w.toArray⟩ : ByteArray).toList == (⟨x.toArray⟩ : ByteArray).toList) = true := h
      rw [hq, beq_iff_eq] at h
      rw [if_pos h] at hri
      ((conv => whnf); repeat (first | (apply load_at; (conv => lhs; whnf); (with_reducible assumption); rfl; (conv => whnf)) | (apply load_at; (conv => lhs; rw [add_plain, add_plain]); (with_reducible assumption); rfl; (conv => whnf)) | (apply loads_at; (conv => lhs; whnf); (with_reducible assumption); rfl; (conv => whnf)) | (refine ⟨⟨by omega, by omega⟩, ?_⟩; (conv => whnf))))
      exact ⟨by rw [hri]; rfl, rfl⟩
    · have h : ((⟨w.toArray⟩ : ByteArray).toList == (⟨x.toArray⟩ : ByteArray).toList) = false := h
      rw [hq, beq_eq_false_iff_ne] at h
      rw [if_neg h] at hri
      ((conv => whnf); repeat (first | (apply load_at; (conv => lhs; whnf); (with_reducible assumption); rfl; (conv => whnf)) | (apply load_at; (conv => lhs; rw [add_plain, add_plain]); (with_reducible assumption); rfl; (conv => whnf)) | (apply loads_at; (conv => lhs; whnf); (with_reducible assumption); rfl; (conv => whnf)) | (refine ⟨⟨by omega, by omega⟩, ?_⟩; (conv => whnf))))
      refine ⟨m - 1, by omega, j + 1, by omega, ?_, hri, rfl⟩
      rw [← hws]
      rfl
  · have hj : j = ws.length := by have := of_decide_eq_false h; omega
    rw [hj, List.drop_length] at hri
    ((conv => whnf); repeat (first | (apply load_at; (conv => lhs; whnf); (with_reducible assumption); rfl; (conv => whnf)) | (apply load_at; (conv => lhs; rw [add_plain, add_plain]); (with_reducible assumption); rfl; (conv => whnf)) | (apply loads_at; (conv => lhs; whnf); (with_reducible assumption); rfl; (conv => whnf)) | (refine ⟨⟨by omega, by omega⟩, ?_⟩; (conv => whnf))))
    exact ⟨by rw [hri]; rfl, rfl⟩
end Go.Proofs.Ytbgijjoemnfnmaa.Al
/- The contracts of cmd.Same and of its reference, 2. -/
namespace Go.Proofs.Ytbgijjoemnfnmaa.Al
open Go Go.Al Go.Proofs Go.RowKit
set_option maxHeartbeats 8000000
set_option maxRecDepth 100000
set_option linter.unusedVariables false
set_option linter.unusedSimpArgs false
def tenEq (k y x f o n p d l a k' y' x' f' o' n' p' d' l' a' : Int) : Bool := k == k' && (y == y' && (x == x' && (f == f' && (o == o' && (n == n' && (p == p' && (d == d' && (l == l' && (a == a' && true)))))))))
theorem run_ten (k y x f o n p d l a k' y' x' f' o' n' p' d' l' a' : Int) (W : World) : (Op.equalIn 10000 84 (.agg #[.int .i64 k, .int .i64 y, .int .i64 x, .int .i64 f, .int .i64 o, .int .i64 n, .int .i64 p, .int .i64 d, .int .i64 l, .int .i64 a]) (.agg #[.int .i64 k', .int .i64 y', .int .i64 x', .int .i64 f', .int .i64 o', .int .i64 n', .int .i64 p', .int .i64 d', .int .i64 l', .int .i64 a'])).run Try.prog W = .ok (tenEq k y x f o n p d l a k' y' x' f' o' n' p' d' l' a') W := by
  obtain ⟨hu1, _⟩ := tab_ok 84 _ rfl
  obtain ⟨hu2, i, hi, hs, _⟩ := tab_ok 3 _ rfl
  rw [show (10000 : Nat) = 9998 + 2 from rfl, run_array_ints W 9998 84 3 10 .i64 i _ _ hu1 hu2 hi hs (fun j hj => ?_)]
  · rfl
  · have h : j = 0 ∨ j = 1 ∨ j = 2 ∨ j = 3 ∨ j = 4 ∨ j = 5 ∨ j = 6 ∨ j = 7 ∨ j = 8 ∨ j = 9 := by omega
    rcases h with rfl | rfl | rfl | rfl | rfl | rfl | rfl | rfl | rfl | rfl <;> exact ⟨_, _, rfl, rfl⟩
theorem tenEq_iff (k y x f o n p d l a k' y' x' f' o' n' p' d' l' a' : Int) : tenEq k y x f o n p d l a k' y' x' f' o' n' p' d' l' a' = true ↔ k = k' ∧ y = y' ∧ x = x' ∧ f = f' ∧ o = o' ∧ n = n' ∧ p = p' ∧ d = d' ∧ l = l' ∧ a = a' := by
  unfold tenEq
  simp only [Bool.and_eq_true, beq_iff_eq, and_true]
theorem same (k y x f o n p d l a : Int) (ab : Bool) (nm : List UInt8) (ls : List LD) (k' y' x' f' o' n' p' d' l' a' : Int) (ab' : Bool) (nm' : List UInt8) (ls' : List LD) (A A' : Option Addr) (c c' : Nat) (F : Heap) (hr : RowAt F A (linesV ls)) (hr' : RowAt F A' (linesV ls')) (hl : ls.length ≤ 10000) (hl' : ls'.length ≤ 10000) :
    FnK Try.prog 28 #[.agg (cmdC k y x f o n p d l a ab ⟨nm.toArray⟩ (.slice A ls.length c)), .agg (cmdC k' y' x' f' o' n' p' d' l' a' ab' ⟨nm'.toArray⟩ (.slice A' ls'.length c'))] F (fun v F' => (∃ z : Bool, v = .bool z ∧ (z = true ↔ (⟨k, y, x, f, o, n, p, d, l, a, ab, nm, ls⟩ : CD) = ⟨k', y', x', f', o', n', p', d', l', a', ab', nm', ls'⟩)) ∧ Ext F F') := by
  have hiff : ((⟨k, y, x, f, o, n, p, d, l, a, ab, nm, ls⟩ : CD) = ⟨k', y', x', f', o', n', p', d', l', a', ab', nm', ls'⟩) ↔ (k = k' ∧ y = y' ∧ x = x' ∧ f = f' ∧ o = o' ∧ n = n' ∧ p = p' ∧ d = d' ∧ l = l' ∧ a = a') ∧ ab = ab' ∧ nm = nm' ∧ ls = ls' := by
    rw [CD.mk.injEq]
    constructor
    · rintro ⟨h1, h2, h3, h4, h5, h6, h7, h8, h9, h10, h⟩; exact ⟨⟨h1, h2, h3, h4, h5, h6, h7, h8, h9, h10⟩, h⟩
    · rintro ⟨⟨h1, h2, h3, h4, h5, h6, h7, h8, h9, h10⟩, h⟩; exact ⟨h1, h2, h3, h4, h5, h6, h7, h8, h9, h10, h⟩
  have no : ∀ F', ¬ ((⟨k, y, x, f, o, n, p, d, l, a, ab, nm, ls⟩ : CD) = ⟨k', y', x', f', o', n', p', d', l', a', ab', nm', ls'⟩) → Ext F F' → (∃ z : Bool, Value.bool false = .bool z ∧ (z = true ↔ (⟨k, y, x, f, o, n, p, d, l, a, ab, nm, ls⟩ : CD) = ⟨k', y', x', f', o', n', p', d', l', a', ab', nm', ls'⟩)) ∧ Ext F F' := fun F' h hX => ⟨⟨false, rfl, ⟨fun e => (by cases e), fun e => absurd e h⟩⟩, hX⟩
  have h10 := run_ten k y x f o n p d l a k' y' x' f' o' n' p' d' l' a'
  have i10 := tenEq_iff k y x f o n p d l a k' y' x' f' o' n' p' d' l' a'
  generalize tenEq k y x f o n p d l a k' y' x' f' o' n' p' d' l' a' = q10 at h10 i10
  have n1 := fun G => nums10 k y x f o n p d l a ab ⟨nm.toArray⟩ (.slice A ls.length c) G rfl
  have n2 := fun G => nums10 k' y' x' f' o' n' p' d' l' a' ab' ⟨nm'.toArray⟩ (.slice A' ls'.length c') G rfl
  have hsb := str_beq nm nm'
  (refine fn_walk tab_ok Try.func28 rfl rfl rfl rfl ?_; (conv => whnf))
  refine new_step (cmdO k y x f o n p d l a ab ⟨nm.toArray⟩ (.slice A ls.length c)) rfl fun b hb => ?_
  have hE := Ext.new hb (cmdO k y x f o n p d l a ab ⟨nm.toArray⟩ (.slice A ls.length c))
  have hB := Heap.put_same F b (cmdO k y x f o n p d l a ab ⟨nm.toArray⟩ (.slice A ls.length c))
  generalize F.put b _ = F1 at hE hB ⊢
  (conv => whnf)
  refine new_step (cmdO k' y' x' f' o' n' p' d' l' a' ab' ⟨nm'.toArray⟩ (.slice A' ls'.length c')) rfl fun b' hb' => ?_
  have hE2 := hE.trans (Ext.new hb' (cmdO k' y' x' f' o' n' p' d' l' a' ab' ⟨nm'.toArray⟩ (.slice A' ls'.length c')))
  have hC := (Ext.new hb' (cmdO k' y' x' f' o' n' p' d' l' a' ab' ⟨nm'.toArray⟩ (.slice A' ls'.length c'))) b _ hB
  have hC' := Heap.put_same F1 b' (cmdO k' y' x' f' o' n' p' d' l' a' ab' ⟨nm'.toArray⟩ (.slice A' ls'.length c'))
  generalize F1.put b' _ = F2 at hE2 hC hC' ⊢
  (conv => whnf)
  refine draw_tree tab_ok (by kernel_rfl) [1, 4] (DT.row [0, 1, 3, 4, 2, 5, 6, 7, 8, 9, 10, 11, 12, 13, 14, 15, 16, 17, 18, 19, 20, 21, 22, 23, 24, 25, 26, 27, 28] .nil) (by kernel_rfl) ?_
  (conv => whnf)
  refine ⟨⟨_, _, _, hC, rfl, Nat.le_refl 13, ?_⟩⟩
  (conv => whnf)
  refine ⟨⟨_, _, _, hC', rfl, Nat.le_refl 13, ?_⟩⟩
  (conv => whnf)
  refine call_of (n1 F2) ?_
  rintro v F3 ⟨rfl, hE3⟩
  refine ⟨hE3, ?_⟩
  (conv => whnf)
  refine call_of (n2 F3) ?_
  rintro v F4 ⟨rfl, hE4⟩
  replace hE4 := hE3.trans hE4
  refine ⟨hE4, ?_⟩
  (conv => whnf)
  refine op_eql q10 rfl rfl rfl (by kernel_rfl) h10 ?_
  refine ⟨hE4, ?_⟩
  replace hC := hE4 _ _ hC
  replace hC' := hE4 _ _ hC'
  have hE5 := hE2.trans hE4
  cases q10 with
  | false =>
    (conv => whnf)
    exact no _ (fun h => by have := i10.2 (hiff.1 h).1; cases this) hE5
  | true =>
  have h1 := i10.1 rfl
  (conv => whnf)
  refine load_blk hC rfl rfl ?_
  (conv => whnf)
  refine load_blk hC' rfl rfl ?_
  (conv => whnf)
  refine cond_split (fun h => ?_) (fun h => ?_)
  case refine_2 =>
    have h : (ab == ab') = false := h
    (conv => whnf)
    exact no _ (fun e => by rw [(hiff.1 e).2.1] at h; simp at h) hE5
  have h2 : ab = ab' := by
    have h : (ab == ab') = true := h
    simpa using h
  (conv => whnf)
  refine load_blk hC rfl rfl ?_
  (conv => whnf)
  refine load_blk hC' rfl rfl ?_
  (conv => whnf)
  refine cond_split (fun h => ?_) (fun h => ?_)
  case refine_2 =>
    have h : ((⟨nm.toArray⟩ : ByteArray).toList == (⟨nm'.toArray⟩ : ByteArray).toList) = false := h
    rw [hsb] at h
    (conv => whnf)
    exact no _ (fun e => by rw [(hiff.1 e).2.2.1] at h; simp at h) hE5
  have h3 : nm = nm' := by
    have h : ((⟨nm.toArray⟩ : ByteArray).toList == (⟨nm'.toArray⟩ : ByteArray).toList) = true := h
    rw [hsb] at h
    simpa using h
  (conv => whnf)
  refine load_blk hC rfl rfl ?_
  (conv => whnf)
  refine load_blk hC' rfl rfl ?_
  (conv => whnf)
  refine call_of (slicesEqualL ls ls' A A' c c' F4 (hr.mono hE5) (hr'.mono hE5) (by omega) (by omega)) ?_
  rintro v F5 ⟨⟨z, rfl, hz⟩, rfl⟩
  refine ⟨hE4, ?_⟩
  (conv => whnf)
  exact ⟨⟨z, rfl, by rw [hz, hiff]; exact ⟨fun h => ⟨h1, h2, h3, h⟩, fun h => h.2.2.2⟩⟩, hE5⟩
theorem rsame (k y x f o n p d l a : Int) (ab : Bool) (nm : List UInt8) (ls : List LD) (k' y' x' f' o' n' p' d' l' a' : Int) (ab' : Bool) (nm' : List UInt8) (ls' : List LD) (A A' : Option Addr) (c c' : Nat) (F : Heap) (hr : RowAt F A (linesV ls)) (hr' : RowAt F A' (linesV ls')) (hl : ls.length ≤ 10000) (hl' : ls'.length ≤ 10000) :
    FnK Try.prog 9 #[.agg (cmdC k y x f o n p d l a ab ⟨nm.toArray⟩ (.slice A ls.length c)), .agg (cmdC k' y' x' f' o' n' p' d' l' a' ab' ⟨nm'.toArray⟩ (.slice A' ls'.length c'))] F (fun v F' => (∃ z : Bool, v = .bool z ∧ (z = true ↔ (⟨k, y, x, f, o, n, p, d, l, a, ab, nm, ls⟩ : CD) = ⟨k', y', x', f', o', n', p', d', l', a', ab', nm', ls'⟩)) ∧ Ext F F') := by
  have hiff : ((⟨k, y, x, f, o, n, p, d, l, a, ab, nm, ls⟩ : CD) = ⟨k', y', x', f', o', n', p', d', l', a', ab', nm', ls'⟩) ↔ (k = k' ∧ y = y' ∧ x = x' ∧ f = f' ∧ o = o' ∧ n = n' ∧ p = p' ∧ d = d' ∧ l = l' ∧ a = a') ∧ ab = ab' ∧ nm = nm' ∧ ls = ls' := by
    rw [CD.mk.injEq]
    constructor
    · rintro ⟨h1, h2, h3, h4, h5, h6, h7, h8, h9, h10, h⟩; exact ⟨⟨h1, h2, h3, h4, h5, h6, h7, h8, h9, h10⟩, h⟩
    · rintro ⟨⟨h1, h2, h3, h4, h5, h6, h7, h8, h9, h10⟩, h⟩; exact ⟨h1, h2, h3, h4, h5, h6, h7, h8, h9, h10, h⟩
  have no : ∀ F', ¬ ((⟨k, y, x, f, o, n, p, d, l, a, ab, nm, ls⟩ : CD) = ⟨k', y', x', f', o', n', p', d', l', a', ab', nm', ls'⟩) → Ext F F' → (∃ z : Bool, Value.bool false = .bool z ∧ (z = true ↔ (⟨k, y, x, f, o, n, p, d, l, a, ab, nm, ls⟩ : CD) = ⟨k', y', x', f', o', n', p', d', l', a', ab', nm', ls'⟩)) ∧ Ext F F' := fun F' h hX => ⟨⟨false, rfl, ⟨fun e => (by cases e), fun e => absurd e h⟩⟩, hX⟩
  have hsb := str_beq nm nm'
  (refine fn_walk tab_ok Try.func9 rfl rfl rfl rfl ?_; (conv => whnf))
  refine new_step (cmdO k y x f o n p d l a ab ⟨nm.toArray⟩ (.slice A ls.length c)) rfl fun b hb => ?_
  have hE := Ext.new hb (cmdO k y x f o n p d l a ab ⟨nm.toArray⟩ (.slice A ls.length c))
  have hB := Heap.put_same F b (cmdO k y x f o n p d l a ab ⟨nm.toArray⟩ (.slice A ls.length c))
  generalize F.put b _ = F1 at hE hB ⊢
  (conv => whnf)
  refine new_step (cmdO k' y' x' f' o' n' p' d' l' a' ab' ⟨nm'.toArray⟩ (.slice A' ls'.length c')) rfl fun b' hb' => ?_
  have hE2 := hE.trans (Ext.new hb' (cmdO k' y' x' f' o' n' p' d' l' a' ab' ⟨nm'.toArray⟩ (.slice A' ls'.length c')))
  have hC := (Ext.new hb' (cmdO k' y' x' f' o' n' p' d' l' a' ab' ⟨nm'.toArray⟩ (.slice A' ls'.length c'))) b _ hB
  have hC' := Heap.put_same F1 b' (cmdO k' y' x' f' o' n' p' d' l' a' ab' ⟨nm'.toArray⟩ (.slice A' ls'.length c'))
  generalize F1.put b' _ = F2 at hE2 hC hC' ⊢
  have hx := hr.mono hE2
  have hy := hr'.mono hE2
  (conv => whnf)
  refine load_blk hC rfl rfl ?_
  (conv => whnf)
  refine load_blk hC' rfl rfl ?_
  (conv => whnf)
  refine cond_split (fun h => ?_) (fun h => ?_)
  case refine_2 =>
    have e0 : k ≠ k' := by have h : (!(k != k')) = false := h; simpa using h
    (conv => whnf)
    exact no _ (fun h => e0 (by replace h := hiff.1 h; exact h.1.1)) hE2
  have e0 : k = k' := by have h : (!(k != k')) = true := h; simpa using h
  (conv => whnf)
  refine load_blk hC rfl rfl ?_
  (conv => whnf)
  refine load_blk hC' rfl rfl ?_
  (conv => whnf)
  refine cond_split (fun h => ?_) (fun h => ?_)
  case refine_2 =>
    have e1 : y ≠ y' := by have h : (!(y != y')) = false := h; simpa using h
    (conv => whnf)
    exact no _ (fun h => e1 (by replace h := hiff.1 h; exact h.1.2.1)) hE2
  have e1 : y = y' := by have h : (!(y != y')) = true := h; simpa using h
  (conv => whnf)
  refine load_blk hC rfl rfl ?_
  (conv => whnf)
  refine load_blk hC' rfl rfl ?_
  (conv => whnf)
  refine cond_split (fun h => ?_) (fun h => ?_)
  case refine_2 =>
    have e2 : x ≠ x' := by have h : (!(x != x')) = false := h; simpa using h
    (conv => whnf)
    exact no _ (fun h => e2 (by replace h := hiff.1 h; exact h.1.2.2.1)) hE2
  have e2 : x = x' := by have h : (!(x != x')) = true := h; simpa using h
  (conv => whnf)
  refine load_blk hC rfl rfl ?_
  (conv => whnf)
  refine load_blk hC' rfl rfl ?_
  (conv => whnf)
  refine cond_split (fun h => ?_) (fun h => ?_)
  case refine_2 =>
    have e3 : f ≠ f' := by have h : (!(f != f')) = false := h; simpa using h
    (conv => whnf)
    exact no _ (fun h => e3 (by replace h := hiff.1 h; exact h.1.2.2.2.1)) hE2
  have e3 : f = f' := by have h : (!(f != f')) = true := h; simpa using h
  (conv => whnf)
  refine load_blk hC rfl rfl ?_
  (conv => whnf)
  refine load_blk hC' rfl rfl ?_
  (conv => whnf)
  refine cond_split (fun h => ?_) (fun h => ?_)
  case refine_2 =>
    have e4 : o ≠ o' := by have h : (!(o != o')) = false := h; simpa using h
    (conv => whnf)
    exact no _ (fun h => e4 (by replace h := hiff.1 h; exact h.1.2.2.2.2.1)) hE2
  have e4 : o = o' := by have h : (!(o != o')) = true := h; simpa using h
  (conv => whnf)
  refine load_blk hC rfl rfl ?_
  (conv => whnf)
  refine load_blk hC' rfl rfl ?_
  (conv => whnf)
  refine cond_split (fun h => ?_) (fun h => ?_)
  case refine_2 =>
    have e5 : n ≠ n' := by have h : (!(n != n')) = false := h; simpa using h
    (conv => whnf)
    exact no _ (fun h => e5 (by replace h := hiff.1 h; exact h.1.2.2.2.2.2.1)) hE2
  have e5 : n = n' := by have h : (!(n != n')) = true := h; simpa using h
  (conv => whnf)
  refine load_blk hC rfl rfl ?_
  (conv => whnf)
  refine load_blk hC' rfl rfl ?_
  (conv => whnf)
  refine cond_split (fun h => ?_) (fun h => ?_)
  · have e6 : p ≠ p' := by have h : (p != p') = true := h; simpa using h
    (conv => whnf)
    exact no _ (fun h => e6 (by replace h := hiff.1 h; exact h.1.2.2.2.2.2.2.1)) hE2
  have e6 : p = p' := by have h : (p != p') = false := h; simpa using h
  refine short [2, 3] [.pointer (some ⟨b, 0, none⟩), .pointer (some ⟨b', 0, none⟩)] rfl fun ρ => ?_
  (conv => whnf)
  refine load_blk hC rfl rfl ?_
  (conv => whnf)
  refine load_blk hC' rfl rfl ?_
  (conv => whnf)
  refine cond_split (fun h => ?_) (fun h => ?_)
  case refine_2 =>
    have e7 : d ≠ d' := by have h : (!(d != d')) = false := h; simpa using h
    (conv => whnf)
    exact no _ (fun h => e7 (by replace h := hiff.1 h; exact h.1.2.2.2.2.2.2.2.1)) hE2
  have e7 : d = d' := by have h : (!(d != d')) = true := h; simpa using h
  (conv => whnf)
  refine load_blk hC rfl rfl ?_
  (conv => whnf)
  refine load_blk hC' rfl rfl ?_
  (conv => whnf)
  refine cond_split (fun h => ?_) (fun h => ?_)
  case refine_2 =>
    have e8 : l ≠ l' := by have h : (!(l != l')) = false := h; simpa using h
    (conv => whnf)
    exact no _ (fun h => e8 (by replace h := hiff.1 h; exact h.1.2.2.2.2.2.2.2.2.1)) hE2
  have e8 : l = l' := by have h : (!(l != l')) = true := h; simpa using h
  (conv => whnf)
  refine load_blk hC rfl rfl ?_
  (conv => whnf)
  refine load_blk hC' rfl rfl ?_
  (conv => whnf)
  refine cond_split (fun h => ?_) (fun h => ?_)
  case refine_2 =>
    have e9 : a ≠ a' := by have h : (!(a != a')) = false := h; simpa using h
    (conv => whnf)
    exact no _ (fun h => e9 (by replace h := hiff.1 h; exact h.1.2.2.2.2.2.2.2.2.2)) hE2
  have e9 : a = a' := by have h : (!(a != a')) = true := h; simpa using h
  (conv => whnf)
  refine load_blk hC rfl rfl ?_
  (conv => whnf)
  refine load_blk hC' rfl rfl ?_
  (conv => whnf)
  refine cond_split (fun h => ?_) (fun h => ?_)
  case refine_2 =>
    have h : (!(!(ab == ab'))) = false := h
    (conv => whnf)
    exact no _ (fun e => by rw [(hiff.1 e).2.1] at h; simp at h) hE2
  have h2 : ab = ab' := by
    have h : (!(!(ab == ab'))) = true := h
    simpa using h
  (conv => whnf)
  refine load_blk hC rfl rfl ?_
  (conv => whnf)
  refine load_blk hC' rfl rfl ?_
  (conv => whnf)
  refine cond_split (fun h => ?_) (fun h => ?_)
  case refine_2 =>
    have h : (!((⟨nm.toArray⟩ : ByteArray).toList != (⟨nm'.toArray⟩ : ByteArray).toList)) = false := h
    unfold bne at h
    rw [hsb] at h
    (conv => whnf)
    exact no _ (fun e => by rw [(hiff.1 e).2.2.1] at h; simp at h) hE2
  have h3 : nm = nm' := by
    have h : (!((⟨nm.toArray⟩ : ByteArray).toList != (⟨nm'.toArray⟩ : ByteArray).toList)) = true := h
    unfold bne at h
    rw [hsb] at h
    simpa using h
  (conv => whnf)
  refine load_blk hC rfl rfl ?_
  (conv => whnf)
  refine load_blk hC' rfl rfl ?_
  (conv => whnf)
  refine cond_split (fun h => ?_) (fun h => ?_)
  · have hn : ls.length ≠ ls'.length := by
      have h : ((ls.length : Int) != (ls'.length : Int)) = true := h
      intro e
      rw [e] at h
      simp at h
    (conv => whnf)
    exact no _ (fun e => hn (by rw [(hiff.1 e).2.2.2])) hE2
  have heq : ls.length = ls'.length := by
    have h : ((ls.length : Int) != (ls'.length : Int)) = false := h
    have := bne_eq_false_iff_eq.1 h
    omega
  refine short [2, 3] [.pointer (some ⟨b, 0, none⟩), .pointer (some ⟨b', 0, none⟩)] rfl fun ρ => ?_
  (conv => whnf)
  refine loop_slots [2, 3, 5] (fun mm vs F' => ∃ j : Nat, j + mm = ls.length ∧ vs = [.pointer (some ⟨b, 0, none⟩), .pointer (some ⟨b', 0, none⟩), .int .i64 (j : Int)] ∧ ls.take j = ls'.take j ∧ F' = F2) ls.length ⟨0, by omega, rfl, rfl, rfl⟩ ?_
  rintro mm vs F3 ρ ⟨j, hjk, rfl, htk, rfl⟩
  (conv => whnf)
  refine load_blk hC rfl rfl ?_
  (conv => whnf)
  refine cond_split (fun h => ?_) (fun h => ?_)
  · have hj : j < ls.length := by have := of_decide_eq_true h; omega
    obtain ⟨ad, rfl⟩ := hx.some (by rw [linesV_len]; omega)
    obtain ⟨bd, rfl⟩ := hy.some (by rw [linesV_len]; omega)
    have hxj : ls[j]? = some ls[j] := List.getElem?_eq_getElem hj
    have hyj : ls'[j]? = some (ls'[j]'(by omega)) := List.getElem?_eq_getElem (by omega)
    have hL1 := fun (K : Value → Prop) => line_load (K := K) hx hj
    have hL2 := fun (K : Value → Prop) => line_load (K := K) hy (j := j) (by omega)
    have hja : ad.add (Int.toNat (j : Int) * 4) = ad.add (j * 4) := by rw [Int.toNat_natCast]
    have hjb : bd.add (Int.toNat (j : Int) * 4) = bd.add (j * 4) := by rw [Int.toNat_natCast]
    rw [← hja] at hL1
    rw [← hjb] at hL2
    have hrl := run_line ls[j] (ls'[j]'(by omega))
    have hli := lnEq_iff ls[j] (ls'[j]'(by omega))
    generalize ls[j] = w at hxj hL1 hrl hli
    generalize ls'[j]'(by omega) = v at hyj hL2 hrl hli
    generalize lnEq w v = z at hrl hli
    (conv => whnf)
    refine draw_tree tab_ok (by kernel_rfl) [] (DT.row [0, 1, 2, 3, 4, 5, 6, 7, 8, 9, 10] .nil) (by kernel_rfl) ?_
    (conv => whnf)
    refine load_blk hC rfl rfl ?_
    (conv => whnf)
    refine ⟨⟨by omega, by omega⟩, ?_⟩
    (conv => whnf)
    refine hL1 _ ?_
    (conv => whnf)
    refine load_blk hC' rfl rfl ?_
    (conv => whnf)
    refine ⟨⟨by omega, by omega⟩, ?_⟩
    (conv => whnf)
    refine hL2 _ ?_
    (conv => whnf)
    refine op_neq z rfl rfl rfl (by kernel_rfl) hrl ?_
    refine ⟨Ext.refl _, ?_⟩
    cases z with
    | false =>
      (conv => whnf)
      exact no _ (fun e => by
        have e := (hiff.1 e).2.2.2
        rw [e] at hxj
        rw [hxj] at hyj
        have := hli.2 (Option.some.inj hyj)
        cases this) hE2
    | true =>
      have hwv := hli.1 rfl
      (conv => whnf)
      refine ⟨mm - 1, by omega, j + 1, by omega, ?_, ?_, rfl⟩
      · have hw : IntKind.i64.wrap ((j : Int) + 1) = ((j + 1 : Nat) : Int) := by rw [IntKind.wrap_i64]; omega
        rw [← hw]
        rfl
      · rw [List.take_add_one, List.take_add_one, hxj, hyj, htk, hwv]
  · have hj : j = ls.length := by have := of_decide_eq_false h; omega
    subst hj
    have hxy : ls = ls' := by
      rw [List.take_length] at htk
      rw [htk, heq, List.take_length]
    (conv => whnf)
    exact ⟨⟨true, rfl, ⟨fun _ => hiff.2 ⟨⟨e0, e1, e2, e3, e4, e5, e6, e7, e8, e9⟩, h2, h3, hxy⟩, fun _ => rfl⟩⟩, hE2⟩
end Go.Proofs.Ytbgijjoemnfnmaa.Al
/- The words of the kinds of commands, and the fields that a kind asks for: text.Words, asks, place; exchequerref48.Words, asks, at. -/
namespace Go.Proofs.Ytbgijjoemnfnmaa.Al
open Go Go.Al Go.Proofs Go.RowKit
set_option maxHeartbeats 8000000
set_option maxRecDepth 100000
set_option linter.unusedVariables false
set_option linter.unusedSimpArgs false
def wordsL : List (List UInt8) := [[102, 117, 110, 100], [111, 98, 106, 101, 99, 116], [121, 101, 97, 114], [110, 111, 100, 101], [97, 109, 101, 110, 100], [116, 114, 97, 110, 115, 102, 101, 114], [112, 111, 115, 116], [114, 101, 118, 101, 114, 115, 101], [114, 101, 115, 101, 114, 118, 101], [101, 110, 99, 117, 109, 98, 101, 114], [101, 120, 112, 101, 110, 100], [99, 97, 110, 99, 101, 108], [99, 108, 111, 115, 101], [98, 97, 108, 97, 110, 99, 101], [116, 114, 105, 97, 108], [115, 104, 111, 119, 110, 111, 100, 101], [115, 104, 111, 119, 100, 111, 99], [115, 104, 111, 119, 101, 110, 116, 114, 121], [102, 117, 110, 100, 115], [115, 116, 97, 116, 101]]
def asksL : Nat → List Nat
  | 1 => [2, 10]
  | 2 => [3]
  | 3 => [0]
  | 4 => [0, 4, 5, 2, 3, 9, 8]
  | 5 => [0, 4, 8]
  | 6 => [0, 4, 5, 8]
  | 7 => [0, 11]
  | 8 => [6]
  | 9 => [0, 12]
  | 10 => [0, 6, 12]
  | 11 => [0, 6, 12]
  | 12 => [6, 7, 8]
  | 13 => [0, 1]
  | 14 => [0, 2, 3]
  | 15 => [0]
  | 16 => [0, 4]
  | 17 => [6]
  | 18 => [6]
  | 20 => [0]
  | _ => []
/-- A field's letter. -/
def letC : Nat → UInt8
  | 0 => 89
  | 1 => 88
  | 2 => 70
  | 3 => 79
  | 4 => 78
  | 5 => 80
  | 6 => 68
  | 7 => 76
  | 9 => 72
  | 10 => 84
  | 11 => 42
  | 12 => 43
  | _ => 65
abbrev wordsO : Obj := .cells (txV wordsL).toArray 9
theorem words (F : Heap) : FnK Try.prog 11 #[] F (fun v F' => ∃ g, v = .slice (some ⟨g, 0, none⟩) 20 20 ∧ RowAt F' (some ⟨g, 0, none⟩) (txV wordsL) ∧ F g = none ∧ Ext F F') := by
  (refine fn_walk tab_ok Try.func11 rfl rfl rfl rfl ?_; (conv => whnf))
  refine new_step (wordsO) rfl fun g h0_g => ?_
  have hE_g := Ext.new h0_g (wordsO)
  have hB_g := Heap.put_same F g (wordsO)
  generalize F.put g _ = F1 at hE_g hB_g ⊢
  have hr := row_blk hB_g
  rw [List.toList_toArray] at hr
  ((conv => whnf); repeat (first | (apply load_at; (conv => lhs; whnf); (with_reducible assumption); rfl; (conv => whnf)) | (apply load_at; (conv => lhs; rw [add_plain, add_plain]); (with_reducible assumption); rfl; (conv => whnf)) | (apply loads_at; (conv => lhs; whnf); (with_reducible assumption); rfl; (conv => whnf)) | (refine ⟨⟨by omega, by omega⟩, ?_⟩; (conv => whnf))))
  exact ⟨g, rfl, hr, h0_g, hE_g⟩
theorem rwords (F : Heap) : FnK Try.prog 12 #[] F (fun v F' => ∃ g, v = .slice (some ⟨g, 0, none⟩) 20 20 ∧ RowAt F' (some ⟨g, 0, none⟩) (txV wordsL) ∧ F g = none ∧ Ext F F') := by
  (refine fn_walk tab_ok Try.func12 rfl rfl rfl rfl ?_; (conv => whnf))
  refine new_step (wordsO) rfl fun g h0_g => ?_
  have hE_g := Ext.new h0_g (wordsO)
  have hB_g := Heap.put_same F g (wordsO)
  generalize F.put g _ = F1 at hE_g hB_g ⊢
  have hr := row_blk hB_g
  rw [List.toList_toArray] at hr
  ((conv => whnf); repeat (first | (apply load_at; (conv => lhs; whnf); (with_reducible assumption); rfl; (conv => whnf)) | (apply load_at; (conv => lhs; rw [add_plain, add_plain]); (with_reducible assumption); rfl; (conv => whnf)) | (apply loads_at; (conv => lhs; whnf); (with_reducible assumption); rfl; (conv => whnf)) | (refine ⟨⟨by omega, by omega⟩, ?_⟩; (conv => whnf))))
  exact ⟨g, rfl, hr, h0_g, hE_g⟩
theorem asksN (k : Nat) (h : 1 ≤ k ∧ k ≤ 20) : k = 1 ∨ k = 2 ∨ k = 3 ∨ k = 4 ∨ k = 5 ∨ k = 6 ∨ k = 7 ∨ k = 8 ∨ k = 9 ∨ k = 10 ∨ k = 11 ∨ k = 12 ∨ k = 13 ∨ k = 14 ∨ k = 15 ∨ k = 16 ∨ k = 17 ∨ k = 18 ∨ k = 19 ∨ k = 20 := by omega
theorem asks (k : Nat) (hk : 1 ≤ k ∧ k ≤ 20) (F : Heap) : FnK Try.prog 18 #[.int .i64 (k : Int)] F (fun v F' => (∃ A c, v = .slice A (asksL k).length c ∧ RowAt F' A ((asksL k).map fun f => .int .i64 ((f : Nat) : Int)) ∧ ∀ a, A = some a → F a.block = none) ∧ Ext F F') := by
  rcases asksN k hk with rfl | rfl | rfl | rfl | rfl | rfl | rfl | rfl | rfl | rfl | rfl | rfl | rfl | rfl | rfl | rfl | rfl | rfl | rfl | rfl
  · (refine fn_walk tab_ok Try.func18 rfl rfl rfl rfl ?_; (conv => whnf))
    refine new_step (.cells ((asksL 1).map fun f => Value.int .i64 ((f : Nat) : Int)).toArray 49) rfl fun g h0_g => ?_
    have hE_g := Ext.new h0_g (.cells ((asksL 1).map fun f => Value.int .i64 ((f : Nat) : Int)).toArray 49)
    have hB_g := Heap.put_same F g (.cells ((asksL 1).map fun f => Value.int .i64 ((f : Nat) : Int)).toArray 49)
    generalize F.put g _ = F1 at hE_g hB_g ⊢
    have hr := row_blk hB_g
    rw [List.toList_toArray] at hr
    ((conv => whnf); repeat (first | (apply load_at; (conv => lhs; whnf); (with_reducible assumption); rfl; (conv => whnf)) | (apply load_at; (conv => lhs; rw [add_plain, add_plain]); (with_reducible assumption); rfl; (conv => whnf)) | (apply loads_at; (conv => lhs; whnf); (with_reducible assumption); rfl; (conv => whnf)) | (refine ⟨⟨by omega, by omega⟩, ?_⟩; (conv => whnf))))
    exact ⟨⟨_, _, rfl, hr, fun a ha => by cases ha; exact h0_g⟩, hE_g⟩
  · (refine fn_walk tab_ok Try.func18 rfl rfl rfl rfl ?_; (conv => whnf))
    refine new_step (.cells ((asksL 2).map fun f => Value.int .i64 ((f : Nat) : Int)).toArray 49) rfl fun g h0_g => ?_
    have hE_g := Ext.new h0_g (.cells ((asksL 2).map fun f => Value.int .i64 ((f : Nat) : Int)).toArray 49)
    have hB_g := Heap.put_same F g (.cells ((asksL 2).map fun f => Value.int .i64 ((f : Nat) : Int)).toArray 49)
    generalize F.put g _ = F1 at hE_g hB_g ⊢
    have hr := row_blk hB_g
    rw [List.toList_toArray] at hr
    ((conv => whnf); repeat (first | (apply load_at; (conv => lhs; whnf); (with_reducible assumption); rfl; (conv => whnf)) | (apply load_at; (conv => lhs; rw [add_plain, add_plain]); (with_reducible assumption); rfl; (conv => whnf)) | (apply loads_at; (conv => lhs; whnf); (with_reducible assumption); rfl; (conv => whnf)) | (refine ⟨⟨by omega, by omega⟩, ?_⟩; (conv => whnf))))
    exact ⟨⟨_, _, rfl, hr, fun a ha => by cases ha; exact h0_g⟩, hE_g⟩
  · (refine fn_walk tab_ok Try.func18 rfl rfl rfl rfl ?_; (conv => whnf))
    refine new_step (.cells ((asksL 3).map fun f => Value.int .i64 ((f : Nat) : Int)).toArray 49) rfl fun g h0_g => ?_
    have hE_g := Ext.new h0_g (.cells ((asksL 3).map fun f => Value.int .i64 ((f : Nat) : Int)).toArray 49)
    have hB_g := Heap.put_same F g (.cells ((asksL 3).map fun f => Value.int .i64 ((f : Nat) : Int)).toArray 49)
    generalize F.put g _ = F1 at hE_g hB_g ⊢
    have hr := row_blk hB_g
    rw [List.toList_toArray] at hr
    ((conv => whnf); repeat (first | (apply load_at; (conv => lhs; whnf); (with_reducible assumption); rfl; (conv => whnf)) | (apply load_at; (conv => lhs; rw [add_plain, add_plain]); (with_reducible assumption); rfl; (conv => whnf)) | (apply loads_at; (conv => lhs; whnf); (with_reducible assumption); rfl; (conv => whnf)) | (refine ⟨⟨by omega, by omega⟩, ?_⟩; (conv => whnf))))
    exact ⟨⟨_, _, rfl, hr, fun a ha => by cases ha; exact h0_g⟩, hE_g⟩
  · (refine fn_walk tab_ok Try.func18 rfl rfl rfl rfl ?_; (conv => whnf))
    refine new_step (.cells ((asksL 4).map fun f => Value.int .i64 ((f : Nat) : Int)).toArray 49) rfl fun g h0_g => ?_
    have hE_g := Ext.new h0_g (.cells ((asksL 4).map fun f => Value.int .i64 ((f : Nat) : Int)).toArray 49)
    have hB_g := Heap.put_same F g (.cells ((asksL 4).map fun f => Value.int .i64 ((f : Nat) : Int)).toArray 49)
    generalize F.put g _ = F1 at hE_g hB_g ⊢
    have hr := row_blk hB_g
    rw [List.toList_toArray] at hr
    ((conv => whnf); repeat (first | (apply load_at; (conv => lhs; whnf); (with_reducible assumption); rfl; (conv => whnf)) | (apply load_at; (conv => lhs; rw [add_plain, add_plain]); (with_reducible assumption); rfl; (conv => whnf)) | (apply loads_at; (conv => lhs; whnf); (with_reducible assumption); rfl; (conv => whnf)) | (refine ⟨⟨by omega, by omega⟩, ?_⟩; (conv => whnf))))
    exact ⟨⟨_, _, rfl, hr, fun a ha => by cases ha; exact h0_g⟩, hE_g⟩
  · (refine fn_walk tab_ok Try.func18 rfl rfl rfl rfl ?_; (conv => whnf))
    refine new_step (.cells ((asksL 5).map fun f => Value.int .i64 ((f : Nat) : Int)).toArray 49) rfl fun g h0_g => ?_
    have hE_g := Ext.new h0_g (.cells ((asksL 5).map fun f => Value.int .i64 ((f : Nat) : Int)).toArray 49)
    have hB_g := Heap.put_same F g (.cells ((asksL 5).map fun f => Value.int .i64 ((f : Nat) : Int)).toArray 49)
    generalize F.put g _ = F1 at hE_g hB_g ⊢
    have hr := row_blk hB_g
    rw [List.toList_toArray] at hr
    ((conv => whnf); repeat (first | (apply load_at; (conv => lhs; whnf); (with_reducible assumption); rfl; (conv => whnf)) | (apply load_at; (conv => lhs; rw [add_plain, add_plain]); (with_reducible assumption); rfl; (conv => whnf)) | (apply loads_at; (conv => lhs; whnf); (with_reducible assumption); rfl; (conv => whnf)) | (refine ⟨⟨by omega, by omega⟩, ?_⟩; (conv => whnf))))
    exact ⟨⟨_, _, rfl, hr, fun a ha => by cases ha; exact h0_g⟩, hE_g⟩
  · (refine fn_walk tab_ok Try.func18 rfl rfl rfl rfl ?_; (conv => whnf))
    refine new_step (.cells ((asksL 6).map fun f => Value.int .i64 ((f : Nat) : Int)).toArray 49) rfl fun g h0_g => ?_
    have hE_g := Ext.new h0_g (.cells ((asksL 6).map fun f => Value.int .i64 ((f : Nat) : Int)).toArray 49)
    have hB_g := Heap.put_same F g (.cells ((asksL 6).map fun f => Value.int .i64 ((f : Nat) : Int)).toArray 49)
    generalize F.put g _ = F1 at hE_g hB_g ⊢
    have hr := row_blk hB_g
    rw [List.toList_toArray] at hr
    ((conv => whnf); repeat (first | (apply load_at; (conv => lhs; whnf); (with_reducible assumption); rfl; (conv => whnf)) | (apply load_at; (conv => lhs; rw [add_plain, add_plain]); (with_reducible assumption); rfl; (conv => whnf)) | (apply loads_at; (conv => lhs; whnf); (with_reducible assumption); rfl; (conv => whnf)) | (refine ⟨⟨by omega, by omega⟩, ?_⟩; (conv => whnf))))
    exact ⟨⟨_, _, rfl, hr, fun a ha => by cases ha; exact h0_g⟩, hE_g⟩
  · (refine fn_walk tab_ok Try.func18 rfl rfl rfl rfl ?_; (conv => whnf))
    refine new_step (.cells ((asksL 7).map fun f => Value.int .i64 ((f : Nat) : Int)).toArray 49) rfl fun g h0_g => ?_
    have hE_g := Ext.new h0_g (.cells ((asksL 7).map fun f => Value.int .i64 ((f : Nat) : Int)).toArray 49)
    have hB_g := Heap.put_same F g (.cells ((asksL 7).map fun f => Value.int .i64 ((f : Nat) : Int)).toArray 49)
    generalize F.put g _ = F1 at hE_g hB_g ⊢
    have hr := row_blk hB_g
    rw [List.toList_toArray] at hr
    ((conv => whnf); repeat (first | (apply load_at; (conv => lhs; whnf); (with_reducible assumption); rfl; (conv => whnf)) | (apply load_at; (conv => lhs; rw [add_plain, add_plain]); (with_reducible assumption); rfl; (conv => whnf)) | (apply loads_at; (conv => lhs; whnf); (with_reducible assumption); rfl; (conv => whnf)) | (refine ⟨⟨by omega, by omega⟩, ?_⟩; (conv => whnf))))
    exact ⟨⟨_, _, rfl, hr, fun a ha => by cases ha; exact h0_g⟩, hE_g⟩
  · (refine fn_walk tab_ok Try.func18 rfl rfl rfl rfl ?_; (conv => whnf))
    refine new_step (.cells ((asksL 8).map fun f => Value.int .i64 ((f : Nat) : Int)).toArray 49) rfl fun g h0_g => ?_
    have hE_g := Ext.new h0_g (.cells ((asksL 8).map fun f => Value.int .i64 ((f : Nat) : Int)).toArray 49)
    have hB_g := Heap.put_same F g (.cells ((asksL 8).map fun f => Value.int .i64 ((f : Nat) : Int)).toArray 49)
    generalize F.put g _ = F1 at hE_g hB_g ⊢
    have hr := row_blk hB_g
    rw [List.toList_toArray] at hr
    ((conv => whnf); repeat (first | (apply load_at; (conv => lhs; whnf); (with_reducible assumption); rfl; (conv => whnf)) | (apply load_at; (conv => lhs; rw [add_plain, add_plain]); (with_reducible assumption); rfl; (conv => whnf)) | (apply loads_at; (conv => lhs; whnf); (with_reducible assumption); rfl; (conv => whnf)) | (refine ⟨⟨by omega, by omega⟩, ?_⟩; (conv => whnf))))
    exact ⟨⟨_, _, rfl, hr, fun a ha => by cases ha; exact h0_g⟩, hE_g⟩
  · (refine fn_walk tab_ok Try.func18 rfl rfl rfl rfl ?_; (conv => whnf))
    refine new_step (.cells ((asksL 9).map fun f => Value.int .i64 ((f : Nat) : Int)).toArray 49) rfl fun g h0_g => ?_
    have hE_g := Ext.new h0_g (.cells ((asksL 9).map fun f => Value.int .i64 ((f : Nat) : Int)).toArray 49)
    have hB_g := Heap.put_same F g (.cells ((asksL 9).map fun f => Value.int .i64 ((f : Nat) : Int)).toArray 49)
    generalize F.put g _ = F1 at hE_g hB_g ⊢
    have hr := row_blk hB_g
    rw [List.toList_toArray] at hr
    ((conv => whnf); repeat (first | (apply load_at; (conv => lhs; whnf); (with_reducible assumption); rfl; (conv => whnf)) | (apply load_at; (conv => lhs; rw [add_plain, add_plain]); (with_reducible assumption); rfl; (conv => whnf)) | (apply loads_at; (conv => lhs; whnf); (with_reducible assumption); rfl; (conv => whnf)) | (refine ⟨⟨by omega, by omega⟩, ?_⟩; (conv => whnf))))
    exact ⟨⟨_, _, rfl, hr, fun a ha => by cases ha; exact h0_g⟩, hE_g⟩
  · (refine fn_walk tab_ok Try.func18 rfl rfl rfl rfl ?_; (conv => whnf))
    refine new_step (.cells ((asksL 10).map fun f => Value.int .i64 ((f : Nat) : Int)).toArray 49) rfl fun g h0_g => ?_
    have hE_g := Ext.new h0_g (.cells ((asksL 10).map fun f => Value.int .i64 ((f : Nat) : Int)).toArray 49)
    have hB_g := Heap.put_same F g (.cells ((asksL 10).map fun f => Value.int .i64 ((f : Nat) : Int)).toArray 49)
    generalize F.put g _ = F1 at hE_g hB_g ⊢
    have hr := row_blk hB_g
    rw [List.toList_toArray] at hr
    ((conv => whnf); repeat (first | (apply load_at; (conv => lhs; whnf); (with_reducible assumption); rfl; (conv => whnf)) | (apply load_at; (conv => lhs; rw [add_plain, add_plain]); (with_reducible assumption); rfl; (conv => whnf)) | (apply loads_at; (conv => lhs; whnf); (with_reducible assumption); rfl; (conv => whnf)) | (refine ⟨⟨by omega, by omega⟩, ?_⟩; (conv => whnf))))
    exact ⟨⟨_, _, rfl, hr, fun a ha => by cases ha; exact h0_g⟩, hE_g⟩
  · (refine fn_walk tab_ok Try.func18 rfl rfl rfl rfl ?_; (conv => whnf))
    refine new_step (.cells ((asksL 11).map fun f => Value.int .i64 ((f : Nat) : Int)).toArray 49) rfl fun g h0_g => ?_
    have hE_g := Ext.new h0_g (.cells ((asksL 11).map fun f => Value.int .i64 ((f : Nat) : Int)).toArray 49)
    have hB_g := Heap.put_same F g (.cells ((asksL 11).map fun f => Value.int .i64 ((f : Nat) : Int)).toArray 49)
    generalize F.put g _ = F1 at hE_g hB_g ⊢
    have hr := row_blk hB_g
    rw [List.toList_toArray] at hr
    ((conv => whnf); repeat (first | (apply load_at; (conv => lhs; whnf); (with_reducible assumption); rfl; (conv => whnf)) | (apply load_at; (conv => lhs; rw [add_plain, add_plain]); (with_reducible assumption); rfl; (conv => whnf)) | (apply loads_at; (conv => lhs; whnf); (with_reducible assumption); rfl; (conv => whnf)) | (refine ⟨⟨by omega, by omega⟩, ?_⟩; (conv => whnf))))
    exact ⟨⟨_, _, rfl, hr, fun a ha => by cases ha; exact h0_g⟩, hE_g⟩
  · (refine fn_walk tab_ok Try.func18 rfl rfl rfl rfl ?_; (conv => whnf))
    refine new_step (.cells ((asksL 12).map fun f => Value.int .i64 ((f : Nat) : Int)).toArray 49) rfl fun g h0_g => ?_
    have hE_g := Ext.new h0_g (.cells ((asksL 12).map fun f => Value.int .i64 ((f : Nat) : Int)).toArray 49)
    have hB_g := Heap.put_same F g (.cells ((asksL 12).map fun f => Value.int .i64 ((f : Nat) : Int)).toArray 49)
    generalize F.put g _ = F1 at hE_g hB_g ⊢
    have hr := row_blk hB_g
    rw [List.toList_toArray] at hr
    ((conv => whnf); repeat (first | (apply load_at; (conv => lhs; whnf); (with_reducible assumption); rfl; (conv => whnf)) | (apply load_at; (conv => lhs; rw [add_plain, add_plain]); (with_reducible assumption); rfl; (conv => whnf)) | (apply loads_at; (conv => lhs; whnf); (with_reducible assumption); rfl; (conv => whnf)) | (refine ⟨⟨by omega, by omega⟩, ?_⟩; (conv => whnf))))
    exact ⟨⟨_, _, rfl, hr, fun a ha => by cases ha; exact h0_g⟩, hE_g⟩
  · (refine fn_walk tab_ok Try.func18 rfl rfl rfl rfl ?_; (conv => whnf))
    refine new_step (.cells ((asksL 13).map fun f => Value.int .i64 ((f : Nat) : Int)).toArray 49) rfl fun g h0_g => ?_
    have hE_g := Ext.new h0_g (.cells ((asksL 13).map fun f => Value.int .i64 ((f : Nat) : Int)).toArray 49)
    have hB_g := Heap.put_same F g (.cells ((asksL 13).map fun f => Value.int .i64 ((f : Nat) : Int)).toArray 49)
    generalize F.put g _ = F1 at hE_g hB_g ⊢
    have hr := row_blk hB_g
    rw [List.toList_toArray] at hr
    ((conv => whnf); repeat (first | (apply load_at; (conv => lhs; whnf); (with_reducible assumption); rfl; (conv => whnf)) | (apply load_at; (conv => lhs; rw [add_plain, add_plain]); (with_reducible assumption); rfl; (conv => whnf)) | (apply loads_at; (conv => lhs; whnf); (with_reducible assumption); rfl; (conv => whnf)) | (refine ⟨⟨by omega, by omega⟩, ?_⟩; (conv => whnf))))
    exact ⟨⟨_, _, rfl, hr, fun a ha => by cases ha; exact h0_g⟩, hE_g⟩
  · (refine fn_walk tab_ok Try.func18 rfl rfl rfl rfl ?_; (conv => whnf))
    refine new_step (.cells ((asksL 14).map fun f => Value.int .i64 ((f : Nat) : Int)).toArray 49) rfl fun g h0_g => ?_
    have hE_g := Ext.new h0_g (.cells ((asksL 14).map fun f => Value.int .i64 ((f : Nat) : Int)).toArray 49)
    have hB_g := Heap.put_same F g (.cells ((asksL 14).map fun f => Value.int .i64 ((f : Nat) : Int)).toArray 49)
    generalize F.put g _ = F1 at hE_g hB_g ⊢
    have hr := row_blk hB_g
    rw [List.toList_toArray] at hr
    ((conv => whnf); repeat (first | (apply load_at; (conv => lhs; whnf); (with_reducible assumption); rfl; (conv => whnf)) | (apply load_at; (conv => lhs; rw [add_plain, add_plain]); (with_reducible assumption); rfl; (conv => whnf)) | (apply loads_at; (conv => lhs; whnf); (with_reducible assumption); rfl; (conv => whnf)) | (refine ⟨⟨by omega, by omega⟩, ?_⟩; (conv => whnf))))
    exact ⟨⟨_, _, rfl, hr, fun a ha => by cases ha; exact h0_g⟩, hE_g⟩
  · (refine fn_walk tab_ok Try.func18 rfl rfl rfl rfl ?_; (conv => whnf))
    refine new_step (.cells ((asksL 15).map fun f => Value.int .i64 ((f : Nat) : Int)).toArray 49) rfl fun g h0_g => ?_
    have hE_g := Ext.new h0_g (.cells ((asksL 15).map fun f => Value.int .i64 ((f : Nat) : Int)).toArray 49)
    have hB_g := Heap.put_same F g (.cells ((asksL 15).map fun f => Value.int .i64 ((f : Nat) : Int)).toArray 49)
    generalize F.put g _ = F1 at hE_g hB_g ⊢
    have hr := row_blk hB_g
    rw [List.toList_toArray] at hr
    ((conv => whnf); repeat (first | (apply load_at; (conv => lhs; whnf); (with_reducible assumption); rfl; (conv => whnf)) | (apply load_at; (conv => lhs; rw [add_plain, add_plain]); (with_reducible assumption); rfl; (conv => whnf)) | (apply loads_at; (conv => lhs; whnf); (with_reducible assumption); rfl; (conv => whnf)) | (refine ⟨⟨by omega, by omega⟩, ?_⟩; (conv => whnf))))
    exact ⟨⟨_, _, rfl, hr, fun a ha => by cases ha; exact h0_g⟩, hE_g⟩
  · (refine fn_walk tab_ok Try.func18 rfl rfl rfl rfl ?_; (conv => whnf))
    refine new_step (.cells ((asksL 16).map fun f => Value.int .i64 ((f : Nat) : Int)).toArray 49) rfl fun g h0_g => ?_
    have hE_g := Ext.new h0_g (.cells ((asksL 16).map fun f => Value.int .i64 ((f : Nat) : Int)).toArray 49)
    have hB_g := Heap.put_same F g (.cells ((asksL 16).map fun f => Value.int .i64 ((f : Nat) : Int)).toArray 49)
    generalize F.put g _ = F1 at hE_g hB_g ⊢
    have hr := row_blk hB_g
    rw [List.toList_toArray] at hr
    ((conv => whnf); repeat (first | (apply load_at; (conv => lhs; whnf); (with_reducible assumption); rfl; (conv => whnf)) | (apply load_at; (conv => lhs; rw [add_plain, add_plain]); (with_reducible assumption); rfl; (conv => whnf)) | (apply loads_at; (conv => lhs; whnf); (with_reducible assumption); rfl; (conv => whnf)) | (refine ⟨⟨by omega, by omega⟩, ?_⟩; (conv => whnf))))
    exact ⟨⟨_, _, rfl, hr, fun a ha => by cases ha; exact h0_g⟩, hE_g⟩
  · (refine fn_walk tab_ok Try.func18 rfl rfl rfl rfl ?_; (conv => whnf))
    refine new_step (.cells ((asksL 17).map fun f => Value.int .i64 ((f : Nat) : Int)).toArray 49) rfl fun g h0_g => ?_
    have hE_g := Ext.new h0_g (.cells ((asksL 17).map fun f => Value.int .i64 ((f : Nat) : Int)).toArray 49)
    have hB_g := Heap.put_same F g (.cells ((asksL 17).map fun f => Value.int .i64 ((f : Nat) : Int)).toArray 49)
    generalize F.put g _ = F1 at hE_g hB_g ⊢
    have hr := row_blk hB_g
    rw [List.toList_toArray] at hr
    ((conv => whnf); repeat (first | (apply load_at; (conv => lhs; whnf); (with_reducible assumption); rfl; (conv => whnf)) | (apply load_at; (conv => lhs; rw [add_plain, add_plain]); (with_reducible assumption); rfl; (conv => whnf)) | (apply loads_at; (conv => lhs; whnf); (with_reducible assumption); rfl; (conv => whnf)) | (refine ⟨⟨by omega, by omega⟩, ?_⟩; (conv => whnf))))
    exact ⟨⟨_, _, rfl, hr, fun a ha => by cases ha; exact h0_g⟩, hE_g⟩
  · (refine fn_walk tab_ok Try.func18 rfl rfl rfl rfl ?_; (conv => whnf))
    refine new_step (.cells ((asksL 18).map fun f => Value.int .i64 ((f : Nat) : Int)).toArray 49) rfl fun g h0_g => ?_
    have hE_g := Ext.new h0_g (.cells ((asksL 18).map fun f => Value.int .i64 ((f : Nat) : Int)).toArray 49)
    have hB_g := Heap.put_same F g (.cells ((asksL 18).map fun f => Value.int .i64 ((f : Nat) : Int)).toArray 49)
    generalize F.put g _ = F1 at hE_g hB_g ⊢
    have hr := row_blk hB_g
    rw [List.toList_toArray] at hr
    ((conv => whnf); repeat (first | (apply load_at; (conv => lhs; whnf); (with_reducible assumption); rfl; (conv => whnf)) | (apply load_at; (conv => lhs; rw [add_plain, add_plain]); (with_reducible assumption); rfl; (conv => whnf)) | (apply loads_at; (conv => lhs; whnf); (with_reducible assumption); rfl; (conv => whnf)) | (refine ⟨⟨by omega, by omega⟩, ?_⟩; (conv => whnf))))
    exact ⟨⟨_, _, rfl, hr, fun a ha => by cases ha; exact h0_g⟩, hE_g⟩
  · (refine fn_walk tab_ok Try.func18 rfl rfl rfl rfl ?_; (conv => whnf))
    exact ⟨⟨none, 0, rfl, RowAt.nil _ _, fun a ha => by cases ha⟩, Ext.refl _⟩
  · (refine fn_walk tab_ok Try.func18 rfl rfl rfl rfl ?_; (conv => whnf))
    refine new_step (.cells ((asksL 20).map fun f => Value.int .i64 ((f : Nat) : Int)).toArray 49) rfl fun g h0_g => ?_
    have hE_g := Ext.new h0_g (.cells ((asksL 20).map fun f => Value.int .i64 ((f : Nat) : Int)).toArray 49)
    have hB_g := Heap.put_same F g (.cells ((asksL 20).map fun f => Value.int .i64 ((f : Nat) : Int)).toArray 49)
    generalize F.put g _ = F1 at hE_g hB_g ⊢
    have hr := row_blk hB_g
    rw [List.toList_toArray] at hr
    ((conv => whnf); repeat (first | (apply load_at; (conv => lhs; whnf); (with_reducible assumption); rfl; (conv => whnf)) | (apply load_at; (conv => lhs; rw [add_plain, add_plain]); (with_reducible assumption); rfl; (conv => whnf)) | (apply loads_at; (conv => lhs; whnf); (with_reducible assumption); rfl; (conv => whnf)) | (refine ⟨⟨by omega, by omega⟩, ?_⟩; (conv => whnf))))
    exact ⟨⟨_, _, rfl, hr, fun a ha => by cases ha; exact h0_g⟩, hE_g⟩
def asksS : List (List UInt8) := [[70, 84], [79], [89], [89, 78, 80, 70, 79, 72, 65], [89, 78, 65], [89, 78, 80, 65], [89, 42], [68], [89, 43], [89, 68, 43], [89, 68, 43], [68, 76, 65], [89, 88], [89, 70, 79], [89], [89, 78], [68], [68], [], [89]]
theorem rasks (k : Nat) (hk : 1 ≤ k ∧ k ≤ 20) (F : Heap) : FnK Try.prog 36 #[.int .i64 (k : Int)] F (fun v F' => v = str ((asksL k).map letC) ∧ Ext F F') := by
  rcases asksN k hk with rfl | rfl | rfl | rfl | rfl | rfl | rfl | rfl | rfl | rfl | rfl | rfl | rfl | rfl | rfl | rfl | rfl | rfl | rfl | rfl
  · (refine fn_walk tab_ok Try.func36 rfl rfl rfl rfl ?_; (conv => whnf))
    refine new_step (.cells (txV asksS).toArray 9) rfl fun g h0_g => ?_
    have hE_g := Ext.new h0_g (.cells (txV asksS).toArray 9)
    have hB_g := Heap.put_same F g (.cells (txV asksS).toArray 9)
    generalize F.put g _ = F1 at hE_g hB_g ⊢
    ((conv => whnf); repeat (first | (apply load_at; (conv => lhs; whnf); (with_reducible assumption); rfl; (conv => whnf)) | (apply load_at; (conv => lhs; rw [add_plain, add_plain]); (with_reducible assumption); rfl; (conv => whnf)) | (apply loads_at; (conv => lhs; whnf); (with_reducible assumption); rfl; (conv => whnf)) | (refine ⟨⟨by omega, by omega⟩, ?_⟩; (conv => whnf))))
    refine ⟨by decide, ?_⟩
    ((conv => whnf); repeat (first | (apply load_at; (conv => lhs; whnf); (with_reducible assumption); rfl; (conv => whnf)) | (apply load_at; (conv => lhs; rw [add_plain, add_plain]); (with_reducible assumption); rfl; (conv => whnf)) | (apply loads_at; (conv => lhs; whnf); (with_reducible assumption); rfl; (conv => whnf)) | (refine ⟨⟨by omega, by omega⟩, ?_⟩; (conv => whnf))))
    exact ⟨rfl, hE_g⟩
  · (refine fn_walk tab_ok Try.func36 rfl rfl rfl rfl ?_; (conv => whnf))
    refine new_step (.cells (txV asksS).toArray 9) rfl fun g h0_g => ?_
    have hE_g := Ext.new h0_g (.cells (txV asksS).toArray 9)
    have hB_g := Heap.put_same F g (.cells (txV asksS).toArray 9)
    generalize F.put g _ = F1 at hE_g hB_g ⊢
    ((conv => whnf); repeat (first | (apply load_at; (conv => lhs; whnf); (with_reducible assumption); rfl; (conv => whnf)) | (apply load_at; (conv => lhs; rw [add_plain, add_plain]); (with_reducible assumption); rfl; (conv => whnf)) | (apply loads_at; (conv => lhs; whnf); (with_reducible assumption); rfl; (conv => whnf)) | (refine ⟨⟨by omega, by omega⟩, ?_⟩; (conv => whnf))))
    refine ⟨by decide, ?_⟩
    ((conv => whnf); repeat (first | (apply load_at; (conv => lhs; whnf); (with_reducible assumption); rfl; (conv => whnf)) | (apply load_at; (conv => lhs; rw [add_plain, add_plain]); (with_reducible assumption); rfl; (conv => whnf)) | (apply loads_at; (conv => lhs; whnf); (with_reducible assumption); rfl; (conv => whnf)) | (refine ⟨⟨by omega, by omega⟩, ?_⟩; (conv => whnf))))
    exact ⟨rfl, hE_g⟩
  · (refine fn_walk tab_ok Try.func36 rfl rfl rfl rfl ?_; (conv => whnf))
    refine new_step (.cells (txV asksS).toArray 9) rfl fun g h0_g => ?_
    have hE_g := Ext.new h0_g (.cells (txV asksS).toArray 9)
    have hB_g := Heap.put_same F g (.cells (txV asksS).toArray 9)
    generalize F.put g _ = F1 at hE_g hB_g ⊢
    ((conv => whnf); repeat (first | (apply load_at; (conv => lhs; whnf); (with_reducible assumption); rfl; (conv => whnf)) | (apply load_at; (conv => lhs; rw [add_plain, add_plain]); (with_reducible assumption); rfl; (conv => whnf)) | (apply loads_at; (conv => lhs; whnf); (with_reducible assumption); rfl; (conv => whnf)) | (refine ⟨⟨by omega, by omega⟩, ?_⟩; (conv => whnf))))
    refine ⟨by decide, ?_⟩
    ((conv => whnf); repeat (first | (apply load_at; (conv => lhs; whnf); (with_reducible assumption); rfl; (conv => whnf)) | (apply load_at; (conv => lhs; rw [add_plain, add_plain]); (with_reducible assumption); rfl; (conv => whnf)) | (apply loads_at; (conv => lhs; whnf); (with_reducible assumption); rfl; (conv => whnf)) | (refine ⟨⟨by omega, by omega⟩, ?_⟩; (conv => whnf))))
    exact ⟨rfl, hE_g⟩
  · (refine fn_walk tab_ok Try.func36 rfl rfl rfl rfl ?_; (conv => whnf))
    refine new_step (.cells (txV asksS).toArray 9) rfl fun g h0_g => ?_
    have hE_g := Ext.new h0_g (.cells (txV asksS).toArray 9)
    have hB_g := Heap.put_same F g (.cells (txV asksS).toArray 9)
    generalize F.put g _ = F1 at hE_g hB_g ⊢
    ((conv => whnf); repeat (first | (apply load_at; (conv => lhs; whnf); (with_reducible assumption); rfl; (conv => whnf)) | (apply load_at; (conv => lhs; rw [add_plain, add_plain]); (with_reducible assumption); rfl; (conv => whnf)) | (apply loads_at; (conv => lhs; whnf); (with_reducible assumption); rfl; (conv => whnf)) | (refine ⟨⟨by omega, by omega⟩, ?_⟩; (conv => whnf))))
    refine ⟨by decide, ?_⟩
    ((conv => whnf); repeat (first | (apply load_at; (conv => lhs; whnf); (with_reducible assumption); rfl; (conv => whnf)) | (apply load_at; (conv => lhs; rw [add_plain, add_plain]); (with_reducible assumption); rfl; (conv => whnf)) | (apply loads_at; (conv => lhs; whnf); (with_reducible assumption); rfl; (conv => whnf)) | (refine ⟨⟨by omega, by omega⟩, ?_⟩; (conv => whnf))))
    exact ⟨rfl, hE_g⟩
  · (refine fn_walk tab_ok Try.func36 rfl rfl rfl rfl ?_; (conv => whnf))
    refine new_step (.cells (txV asksS).toArray 9) rfl fun g h0_g => ?_
    have hE_g := Ext.new h0_g (.cells (txV asksS).toArray 9)
    have hB_g := Heap.put_same F g (.cells (txV asksS).toArray 9)
    generalize F.put g _ = F1 at hE_g hB_g ⊢
    ((conv => whnf); repeat (first | (apply load_at; (conv => lhs; whnf); (with_reducible assumption); rfl; (conv => whnf)) | (apply load_at; (conv => lhs; rw [add_plain, add_plain]); (with_reducible assumption); rfl; (conv => whnf)) | (apply loads_at; (conv => lhs; whnf); (with_reducible assumption); rfl; (conv => whnf)) | (refine ⟨⟨by omega, by omega⟩, ?_⟩; (conv => whnf))))
    refine ⟨by decide, ?_⟩
    ((conv => whnf); repeat (first | (apply load_at; (conv => lhs; whnf); (with_reducible assumption); rfl; (conv => whnf)) | (apply load_at; (conv => lhs; rw [add_plain, add_plain]); (with_reducible assumption); rfl; (conv => whnf)) | (apply loads_at; (conv => lhs; whnf); (with_reducible assumption); rfl; (conv => whnf)) | (refine ⟨⟨by omega, by omega⟩, ?_⟩; (conv => whnf))))
    exact ⟨rfl, hE_g⟩
  · (refine fn_walk tab_ok Try.func36 rfl rfl rfl rfl ?_; (conv => whnf))
    refine new_step (.cells (txV asksS).toArray 9) rfl fun g h0_g => ?_
    have hE_g := Ext.new h0_g (.cells (txV asksS).toArray 9)
    have hB_g := Heap.put_same F g (.cells (txV asksS).toArray 9)
    generalize F.put g _ = F1 at hE_g hB_g ⊢
    ((conv => whnf); repeat (first | (apply load_at; (conv => lhs; whnf); (with_reducible assumption); rfl; (conv => whnf)) | (apply load_at; (conv => lhs; rw [add_plain, add_plain]); (with_reducible assumption); rfl; (conv => whnf)) | (apply loads_at; (conv => lhs; whnf); (with_reducible assumption); rfl; (conv => whnf)) | (refine ⟨⟨by omega, by omega⟩, ?_⟩; (conv => whnf))))
    refine ⟨by decide, ?_⟩
    ((conv => whnf); repeat (first | (apply load_at; (conv => lhs; whnf); (with_reducible assumption); rfl; (conv => whnf)) | (apply load_at; (conv => lhs; rw [add_plain, add_plain]); (with_reducible assumption); rfl; (conv => whnf)) | (apply loads_at; (conv => lhs; whnf); (with_reducible assumption); rfl; (conv => whnf)) | (refine ⟨⟨by omega, by omega⟩, ?_⟩; (conv => whnf))))
    exact ⟨rfl, hE_g⟩
  · (refine fn_walk tab_ok Try.func36 rfl rfl rfl rfl ?_; (conv => whnf))
    refine new_step (.cells (txV asksS).toArray 9) rfl fun g h0_g => ?_
    have hE_g := Ext.new h0_g (.cells (txV asksS).toArray 9)
    have hB_g := Heap.put_same F g (.cells (txV asksS).toArray 9)
    generalize F.put g _ = F1 at hE_g hB_g ⊢
    ((conv => whnf); repeat (first | (apply load_at; (conv => lhs; whnf); (with_reducible assumption); rfl; (conv => whnf)) | (apply load_at; (conv => lhs; rw [add_plain, add_plain]); (with_reducible assumption); rfl; (conv => whnf)) | (apply loads_at; (conv => lhs; whnf); (with_reducible assumption); rfl; (conv => whnf)) | (refine ⟨⟨by omega, by omega⟩, ?_⟩; (conv => whnf))))
    refine ⟨by decide, ?_⟩
    ((conv => whnf); repeat (first | (apply load_at; (conv => lhs; whnf); (with_reducible assumption); rfl; (conv => whnf)) | (apply load_at; (conv => lhs; rw [add_plain, add_plain]); (with_reducible assumption); rfl; (conv => whnf)) | (apply loads_at; (conv => lhs; whnf); (with_reducible assumption); rfl; (conv => whnf)) | (refine ⟨⟨by omega, by omega⟩, ?_⟩; (conv => whnf))))
    exact ⟨rfl, hE_g⟩
  · (refine fn_walk tab_ok Try.func36 rfl rfl rfl rfl ?_; (conv => whnf))
    refine new_step (.cells (txV asksS).toArray 9) rfl fun g h0_g => ?_
    have hE_g := Ext.new h0_g (.cells (txV asksS).toArray 9)
    have hB_g := Heap.put_same F g (.cells (txV asksS).toArray 9)
    generalize F.put g _ = F1 at hE_g hB_g ⊢
    ((conv => whnf); repeat (first | (apply load_at; (conv => lhs; whnf); (with_reducible assumption); rfl; (conv => whnf)) | (apply load_at; (conv => lhs; rw [add_plain, add_plain]); (with_reducible assumption); rfl; (conv => whnf)) | (apply loads_at; (conv => lhs; whnf); (with_reducible assumption); rfl; (conv => whnf)) | (refine ⟨⟨by omega, by omega⟩, ?_⟩; (conv => whnf))))
    refine ⟨by decide, ?_⟩
    ((conv => whnf); repeat (first | (apply load_at; (conv => lhs; whnf); (with_reducible assumption); rfl; (conv => whnf)) | (apply load_at; (conv => lhs; rw [add_plain, add_plain]); (with_reducible assumption); rfl; (conv => whnf)) | (apply loads_at; (conv => lhs; whnf); (with_reducible assumption); rfl; (conv => whnf)) | (refine ⟨⟨by omega, by omega⟩, ?_⟩; (conv => whnf))))
    exact ⟨rfl, hE_g⟩
  · (refine fn_walk tab_ok Try.func36 rfl rfl rfl rfl ?_; (conv => whnf))
    refine new_step (.cells (txV asksS).toArray 9) rfl fun g h0_g => ?_
    have hE_g := Ext.new h0_g (.cells (txV asksS).toArray 9)
    have hB_g := Heap.put_same F g (.cells (txV asksS).toArray 9)
    generalize F.put g _ = F1 at hE_g hB_g ⊢
    ((conv => whnf); repeat (first | (apply load_at; (conv => lhs; whnf); (with_reducible assumption); rfl; (conv => whnf)) | (apply load_at; (conv => lhs; rw [add_plain, add_plain]); (with_reducible assumption); rfl; (conv => whnf)) | (apply loads_at; (conv => lhs; whnf); (with_reducible assumption); rfl; (conv => whnf)) | (refine ⟨⟨by omega, by omega⟩, ?_⟩; (conv => whnf))))
    refine ⟨by decide, ?_⟩
    ((conv => whnf); repeat (first | (apply load_at; (conv => lhs; whnf); (with_reducible assumption); rfl; (conv => whnf)) | (apply load_at; (conv => lhs; rw [add_plain, add_plain]); (with_reducible assumption); rfl; (conv => whnf)) | (apply loads_at; (conv => lhs; whnf); (with_reducible assumption); rfl; (conv => whnf)) | (refine ⟨⟨by omega, by omega⟩, ?_⟩; (conv => whnf))))
    exact ⟨rfl, hE_g⟩
  · (refine fn_walk tab_ok Try.func36 rfl rfl rfl rfl ?_; (conv => whnf))
    refine new_step (.cells (txV asksS).toArray 9) rfl fun g h0_g => ?_
    have hE_g := Ext.new h0_g (.cells (txV asksS).toArray 9)
    have hB_g := Heap.put_same F g (.cells (txV asksS).toArray 9)
    generalize F.put g _ = F1 at hE_g hB_g ⊢
    ((conv => whnf); repeat (first | (apply load_at; (conv => lhs; whnf); (with_reducible assumption); rfl; (conv => whnf)) | (apply load_at; (conv => lhs; rw [add_plain, add_plain]); (with_reducible assumption); rfl; (conv => whnf)) | (apply loads_at; (conv => lhs; whnf); (with_reducible assumption); rfl; (conv => whnf)) | (refine ⟨⟨by omega, by omega⟩, ?_⟩; (conv => whnf))))
    refine ⟨by decide, ?_⟩
    ((conv => whnf); repeat (first | (apply load_at; (conv => lhs; whnf); (with_reducible assumption); rfl; (conv => whnf)) | (apply load_at; (conv => lhs; rw [add_plain, add_plain]); (with_reducible assumption); rfl; (conv => whnf)) | (apply loads_at; (conv => lhs; whnf); (with_reducible assumption); rfl; (conv => whnf)) | (refine ⟨⟨by omega, by omega⟩, ?_⟩; (conv => whnf))))
    exact ⟨rfl, hE_g⟩
  · (refine fn_walk tab_ok Try.func36 rfl rfl rfl rfl ?_; (conv => whnf))
    refine new_step (.cells (txV asksS).toArray 9) rfl fun g h0_g => ?_
    have hE_g := Ext.new h0_g (.cells (txV asksS).toArray 9)
    have hB_g := Heap.put_same F g (.cells (txV asksS).toArray 9)
    generalize F.put g _ = F1 at hE_g hB_g ⊢
    ((conv => whnf); repeat (first | (apply load_at; (conv => lhs; whnf); (with_reducible assumption); rfl; (conv => whnf)) | (apply load_at; (conv => lhs; rw [add_plain, add_plain]); (with_reducible assumption); rfl; (conv => whnf)) | (apply loads_at; (conv => lhs; whnf); (with_reducible assumption); rfl; (conv => whnf)) | (refine ⟨⟨by omega, by omega⟩, ?_⟩; (conv => whnf))))
    refine ⟨by decide, ?_⟩
    ((conv => whnf); repeat (first | (apply load_at; (conv => lhs; whnf); (with_reducible assumption); rfl; (conv => whnf)) | (apply load_at; (conv => lhs; rw [add_plain, add_plain]); (with_reducible assumption); rfl; (conv => whnf)) | (apply loads_at; (conv => lhs; whnf); (with_reducible assumption); rfl; (conv => whnf)) | (refine ⟨⟨by omega, by omega⟩, ?_⟩; (conv => whnf))))
    exact ⟨rfl, hE_g⟩
  · (refine fn_walk tab_ok Try.func36 rfl rfl rfl rfl ?_; (conv => whnf))
    refine new_step (.cells (txV asksS).toArray 9) rfl fun g h0_g => ?_
    have hE_g := Ext.new h0_g (.cells (txV asksS).toArray 9)
    have hB_g := Heap.put_same F g (.cells (txV asksS).toArray 9)
    generalize F.put g _ = F1 at hE_g hB_g ⊢
    ((conv => whnf); repeat (first | (apply load_at; (conv => lhs; whnf); (with_reducible assumption); rfl; (conv => whnf)) | (apply load_at; (conv => lhs; rw [add_plain, add_plain]); (with_reducible assumption); rfl; (conv => whnf)) | (apply loads_at; (conv => lhs; whnf); (with_reducible assumption); rfl; (conv => whnf)) | (refine ⟨⟨by omega, by omega⟩, ?_⟩; (conv => whnf))))
    refine ⟨by decide, ?_⟩
    ((conv => whnf); repeat (first | (apply load_at; (conv => lhs; whnf); (with_reducible assumption); rfl; (conv => whnf)) | (apply load_at; (conv => lhs; rw [add_plain, add_plain]); (with_reducible assumption); rfl; (conv => whnf)) | (apply loads_at; (conv => lhs; whnf); (with_reducible assumption); rfl; (conv => whnf)) | (refine ⟨⟨by omega, by omega⟩, ?_⟩; (conv => whnf))))
    exact ⟨rfl, hE_g⟩
  · (refine fn_walk tab_ok Try.func36 rfl rfl rfl rfl ?_; (conv => whnf))
    refine new_step (.cells (txV asksS).toArray 9) rfl fun g h0_g => ?_
    have hE_g := Ext.new h0_g (.cells (txV asksS).toArray 9)
    have hB_g := Heap.put_same F g (.cells (txV asksS).toArray 9)
    generalize F.put g _ = F1 at hE_g hB_g ⊢
    ((conv => whnf); repeat (first | (apply load_at; (conv => lhs; whnf); (with_reducible assumption); rfl; (conv => whnf)) | (apply load_at; (conv => lhs; rw [add_plain, add_plain]); (with_reducible assumption); rfl; (conv => whnf)) | (apply loads_at; (conv => lhs; whnf); (with_reducible assumption); rfl; (conv => whnf)) | (refine ⟨⟨by omega, by omega⟩, ?_⟩; (conv => whnf))))
    refine ⟨by decide, ?_⟩
    ((conv => whnf); repeat (first | (apply load_at; (conv => lhs; whnf); (with_reducible assumption); rfl; (conv => whnf)) | (apply load_at; (conv => lhs; rw [add_plain, add_plain]); (with_reducible assumption); rfl; (conv => whnf)) | (apply loads_at; (conv => lhs; whnf); (with_reducible assumption); rfl; (conv => whnf)) | (refine ⟨⟨by omega, by omega⟩, ?_⟩; (conv => whnf))))
    exact ⟨rfl, hE_g⟩
  · (refine fn_walk tab_ok Try.func36 rfl rfl rfl rfl ?_; (conv => whnf))
    refine new_step (.cells (txV asksS).toArray 9) rfl fun g h0_g => ?_
    have hE_g := Ext.new h0_g (.cells (txV asksS).toArray 9)
    have hB_g := Heap.put_same F g (.cells (txV asksS).toArray 9)
    generalize F.put g _ = F1 at hE_g hB_g ⊢
    ((conv => whnf); repeat (first | (apply load_at; (conv => lhs; whnf); (with_reducible assumption); rfl; (conv => whnf)) | (apply load_at; (conv => lhs; rw [add_plain, add_plain]); (with_reducible assumption); rfl; (conv => whnf)) | (apply loads_at; (conv => lhs; whnf); (with_reducible assumption); rfl; (conv => whnf)) | (refine ⟨⟨by omega, by omega⟩, ?_⟩; (conv => whnf))))
    refine ⟨by decide, ?_⟩
    ((conv => whnf); repeat (first | (apply load_at; (conv => lhs; whnf); (with_reducible assumption); rfl; (conv => whnf)) | (apply load_at; (conv => lhs; rw [add_plain, add_plain]); (with_reducible assumption); rfl; (conv => whnf)) | (apply loads_at; (conv => lhs; whnf); (with_reducible assumption); rfl; (conv => whnf)) | (refine ⟨⟨by omega, by omega⟩, ?_⟩; (conv => whnf))))
    exact ⟨rfl, hE_g⟩
  · (refine fn_walk tab_ok Try.func36 rfl rfl rfl rfl ?_; (conv => whnf))
    refine new_step (.cells (txV asksS).toArray 9) rfl fun g h0_g => ?_
    have hE_g := Ext.new h0_g (.cells (txV asksS).toArray 9)
    have hB_g := Heap.put_same F g (.cells (txV asksS).toArray 9)
    generalize F.put g _ = F1 at hE_g hB_g ⊢
    ((conv => whnf); repeat (first | (apply load_at; (conv => lhs; whnf); (with_reducible assumption); rfl; (conv => whnf)) | (apply load_at; (conv => lhs; rw [add_plain, add_plain]); (with_reducible assumption); rfl; (conv => whnf)) | (apply loads_at; (conv => lhs; whnf); (with_reducible assumption); rfl; (conv => whnf)) | (refine ⟨⟨by omega, by omega⟩, ?_⟩; (conv => whnf))))
    refine ⟨by decide, ?_⟩
    ((conv => whnf); repeat (first | (apply load_at; (conv => lhs; whnf); (with_reducible assumption); rfl; (conv => whnf)) | (apply load_at; (conv => lhs; rw [add_plain, add_plain]); (with_reducible assumption); rfl; (conv => whnf)) | (apply loads_at; (conv => lhs; whnf); (with_reducible assumption); rfl; (conv => whnf)) | (refine ⟨⟨by omega, by omega⟩, ?_⟩; (conv => whnf))))
    exact ⟨rfl, hE_g⟩
  · (refine fn_walk tab_ok Try.func36 rfl rfl rfl rfl ?_; (conv => whnf))
    refine new_step (.cells (txV asksS).toArray 9) rfl fun g h0_g => ?_
    have hE_g := Ext.new h0_g (.cells (txV asksS).toArray 9)
    have hB_g := Heap.put_same F g (.cells (txV asksS).toArray 9)
    generalize F.put g _ = F1 at hE_g hB_g ⊢
    ((conv => whnf); repeat (first | (apply load_at; (conv => lhs; whnf); (with_reducible assumption); rfl; (conv => whnf)) | (apply load_at; (conv => lhs; rw [add_plain, add_plain]); (with_reducible assumption); rfl; (conv => whnf)) | (apply loads_at; (conv => lhs; whnf); (with_reducible assumption); rfl; (conv => whnf)) | (refine ⟨⟨by omega, by omega⟩, ?_⟩; (conv => whnf))))
    refine ⟨by decide, ?_⟩
    ((conv => whnf); repeat (first | (apply load_at; (conv => lhs; whnf); (with_reducible assumption); rfl; (conv => whnf)) | (apply load_at; (conv => lhs; rw [add_plain, add_plain]); (with_reducible assumption); rfl; (conv => whnf)) | (apply loads_at; (conv => lhs; whnf); (with_reducible assumption); rfl; (conv => whnf)) | (refine ⟨⟨by omega, by omega⟩, ?_⟩; (conv => whnf))))
    exact ⟨rfl, hE_g⟩
  · (refine fn_walk tab_ok Try.func36 rfl rfl rfl rfl ?_; (conv => whnf))
    refine new_step (.cells (txV asksS).toArray 9) rfl fun g h0_g => ?_
    have hE_g := Ext.new h0_g (.cells (txV asksS).toArray 9)
    have hB_g := Heap.put_same F g (.cells (txV asksS).toArray 9)
    generalize F.put g _ = F1 at hE_g hB_g ⊢
    ((conv => whnf); repeat (first | (apply load_at; (conv => lhs; whnf); (with_reducible assumption); rfl; (conv => whnf)) | (apply load_at; (conv => lhs; rw [add_plain, add_plain]); (with_reducible assumption); rfl; (conv => whnf)) | (apply loads_at; (conv => lhs; whnf); (with_reducible assumption); rfl; (conv => whnf)) | (refine ⟨⟨by omega, by omega⟩, ?_⟩; (conv => whnf))))
    refine ⟨by decide, ?_⟩
    ((conv => whnf); repeat (first | (apply load_at; (conv => lhs; whnf); (with_reducible assumption); rfl; (conv => whnf)) | (apply load_at; (conv => lhs; rw [add_plain, add_plain]); (with_reducible assumption); rfl; (conv => whnf)) | (apply loads_at; (conv => lhs; whnf); (with_reducible assumption); rfl; (conv => whnf)) | (refine ⟨⟨by omega, by omega⟩, ?_⟩; (conv => whnf))))
    exact ⟨rfl, hE_g⟩
  · (refine fn_walk tab_ok Try.func36 rfl rfl rfl rfl ?_; (conv => whnf))
    refine new_step (.cells (txV asksS).toArray 9) rfl fun g h0_g => ?_
    have hE_g := Ext.new h0_g (.cells (txV asksS).toArray 9)
    have hB_g := Heap.put_same F g (.cells (txV asksS).toArray 9)
    generalize F.put g _ = F1 at hE_g hB_g ⊢
    ((conv => whnf); repeat (first | (apply load_at; (conv => lhs; whnf); (with_reducible assumption); rfl; (conv => whnf)) | (apply load_at; (conv => lhs; rw [add_plain, add_plain]); (with_reducible assumption); rfl; (conv => whnf)) | (apply loads_at; (conv => lhs; whnf); (with_reducible assumption); rfl; (conv => whnf)) | (refine ⟨⟨by omega, by omega⟩, ?_⟩; (conv => whnf))))
    refine ⟨by decide, ?_⟩
    ((conv => whnf); repeat (first | (apply load_at; (conv => lhs; whnf); (with_reducible assumption); rfl; (conv => whnf)) | (apply load_at; (conv => lhs; rw [add_plain, add_plain]); (with_reducible assumption); rfl; (conv => whnf)) | (apply loads_at; (conv => lhs; whnf); (with_reducible assumption); rfl; (conv => whnf)) | (refine ⟨⟨by omega, by omega⟩, ?_⟩; (conv => whnf))))
    exact ⟨rfl, hE_g⟩
  · (refine fn_walk tab_ok Try.func36 rfl rfl rfl rfl ?_; (conv => whnf))
    refine new_step (.cells (txV asksS).toArray 9) rfl fun g h0_g => ?_
    have hE_g := Ext.new h0_g (.cells (txV asksS).toArray 9)
    have hB_g := Heap.put_same F g (.cells (txV asksS).toArray 9)
    generalize F.put g _ = F1 at hE_g hB_g ⊢
    ((conv => whnf); repeat (first | (apply load_at; (conv => lhs; whnf); (with_reducible assumption); rfl; (conv => whnf)) | (apply load_at; (conv => lhs; rw [add_plain, add_plain]); (with_reducible assumption); rfl; (conv => whnf)) | (apply loads_at; (conv => lhs; whnf); (with_reducible assumption); rfl; (conv => whnf)) | (refine ⟨⟨by omega, by omega⟩, ?_⟩; (conv => whnf))))
    refine ⟨by decide, ?_⟩
    ((conv => whnf); repeat (first | (apply load_at; (conv => lhs; whnf); (with_reducible assumption); rfl; (conv => whnf)) | (apply load_at; (conv => lhs; rw [add_plain, add_plain]); (with_reducible assumption); rfl; (conv => whnf)) | (apply loads_at; (conv => lhs; whnf); (with_reducible assumption); rfl; (conv => whnf)) | (refine ⟨⟨by omega, by omega⟩, ?_⟩; (conv => whnf))))
    exact ⟨rfl, hE_g⟩
  · (refine fn_walk tab_ok Try.func36 rfl rfl rfl rfl ?_; (conv => whnf))
    refine new_step (.cells (txV asksS).toArray 9) rfl fun g h0_g => ?_
    have hE_g := Ext.new h0_g (.cells (txV asksS).toArray 9)
    have hB_g := Heap.put_same F g (.cells (txV asksS).toArray 9)
    generalize F.put g _ = F1 at hE_g hB_g ⊢
    ((conv => whnf); repeat (first | (apply load_at; (conv => lhs; whnf); (with_reducible assumption); rfl; (conv => whnf)) | (apply load_at; (conv => lhs; rw [add_plain, add_plain]); (with_reducible assumption); rfl; (conv => whnf)) | (apply loads_at; (conv => lhs; whnf); (with_reducible assumption); rfl; (conv => whnf)) | (refine ⟨⟨by omega, by omega⟩, ?_⟩; (conv => whnf))))
    refine ⟨by decide, ?_⟩
    ((conv => whnf); repeat (first | (apply load_at; (conv => lhs; whnf); (with_reducible assumption); rfl; (conv => whnf)) | (apply load_at; (conv => lhs; rw [add_plain, add_plain]); (with_reducible assumption); rfl; (conv => whnf)) | (apply loads_at; (conv => lhs; whnf); (with_reducible assumption); rfl; (conv => whnf)) | (refine ⟨⟨by omega, by omega⟩, ?_⟩; (conv => whnf))))
    exact ⟨rfl, hE_g⟩
/-- Where a number stands in a command. -/
def offF (f : Nat) : Nat := if f < 8 then f + 1 else 9
theorem fieldN (f : Nat) (h : f ≤ 8) : f = 0 ∨ f = 1 ∨ f = 2 ∨ f = 3 ∨ f = 4 ∨ f = 5 ∨ f = 6 ∨ f = 7 ∨ f = 8 := by omega
theorem place (f : Nat) (hf : f ≤ 8) (p : Nat) (F : Heap) : FnK Try.prog 32 #[.pointer (some ⟨p, 0, none⟩), .int .i64 (f : Int)] F (fun v F' => v = .pointer (some ⟨p, offF f, none⟩) ∧ F' = F) := by
  rcases fieldN f hf with rfl | rfl | rfl | rfl | rfl | rfl | rfl | rfl | rfl
  · (refine fn_walk tab_ok Try.func32 rfl rfl rfl rfl ?_; (conv => whnf))
    exact ⟨rfl, rfl⟩
  · (refine fn_walk tab_ok Try.func32 rfl rfl rfl rfl ?_; (conv => whnf))
    exact ⟨rfl, rfl⟩
  · (refine fn_walk tab_ok Try.func32 rfl rfl rfl rfl ?_; (conv => whnf))
    exact ⟨rfl, rfl⟩
  · (refine fn_walk tab_ok Try.func32 rfl rfl rfl rfl ?_; (conv => whnf))
    exact ⟨rfl, rfl⟩
  · (refine fn_walk tab_ok Try.func32 rfl rfl rfl rfl ?_; (conv => whnf))
    exact ⟨rfl, rfl⟩
  · (refine fn_walk tab_ok Try.func32 rfl rfl rfl rfl ?_; (conv => whnf))
    exact ⟨rfl, rfl⟩
  · (refine fn_walk tab_ok Try.func32 rfl rfl rfl rfl ?_; (conv => whnf))
    exact ⟨rfl, rfl⟩
  · (refine fn_walk tab_ok Try.func32 rfl rfl rfl rfl ?_; (conv => whnf))
    exact ⟨rfl, rfl⟩
  · (refine fn_walk tab_ok Try.func32 rfl rfl rfl rfl ?_; (conv => whnf))
    exact ⟨rfl, rfl⟩
theorem rat (f : Nat) (hf : f ≤ 8) (p : Nat) (F : Heap) : FnK Try.prog 40 #[.pointer (some ⟨p, 0, none⟩), .int .u8 ((letC f).toNat : Int)] F (fun v F' => v = .pointer (some ⟨p, offF f, none⟩) ∧ F' = F) := by
  rcases fieldN f hf with rfl | rfl | rfl | rfl | rfl | rfl | rfl | rfl | rfl
  · (refine fn_walk tab_ok Try.func40 rfl rfl rfl rfl ?_; (conv => whnf))
    exact ⟨rfl, rfl⟩
  · (refine fn_walk tab_ok Try.func40 rfl rfl rfl rfl ?_; (conv => whnf))
    exact ⟨rfl, rfl⟩
  · (refine fn_walk tab_ok Try.func40 rfl rfl rfl rfl ?_; (conv => whnf))
    exact ⟨rfl, rfl⟩
  · (refine fn_walk tab_ok Try.func40 rfl rfl rfl rfl ?_; (conv => whnf))
    exact ⟨rfl, rfl⟩
  · (refine fn_walk tab_ok Try.func40 rfl rfl rfl rfl ?_; (conv => whnf))
    exact ⟨rfl, rfl⟩
  · (refine fn_walk tab_ok Try.func40 rfl rfl rfl rfl ?_; (conv => whnf))
    exact ⟨rfl, rfl⟩
  · (refine fn_walk tab_ok Try.func40 rfl rfl rfl rfl ?_; (conv => whnf))
    exact ⟨rfl, rfl⟩
  · (refine fn_walk tab_ok Try.func40 rfl rfl rfl rfl ?_; (conv => whnf))
    exact ⟨rfl, rfl⟩
  · (refine fn_walk tab_ok Try.func40 rfl rfl rfl rfl ?_; (conv => whnf))
    exact ⟨rfl, rfl⟩
end Go.Proofs.Ytbgijjoemnfnmaa.Al
/- Words and numbers that are read: what they are in plain Lean; (*text.reader).word, exchequerref48.cut. -/
namespace Go.Proofs.Ytbgijjoemnfnmaa.Al
open Go Go.Al Go.Proofs Go.RowKit
set_option maxHeartbeats 8000000
set_option maxRecDepth 100000
set_option linter.unusedVariables false
set_option linter.unusedSimpArgs false
def isDig (c : UInt8) : Bool := decide (48 ≤ c.toNat) && decide (c.toNat ≤ 57)
def stepD (n : Int) (c : UInt8) : Int := IntKind.i64.wrap (IntKind.i64.wrap (10 * n) - ((c.toNat : Int) - 48))
def digFold (ds : List UInt8) : Int := ds.foldl stepD 0
def okD (ds : List UInt8) : Bool := ds.all isDig && decide (ds.length ≤ 19)
def numV (w : List UInt8) : Int × Bool := if okD (minusL w).1 = true then (if (minusL w).2 = true then digFold (minusL w).1 else IntKind.i64.wrap (0 - digFold (minusL w).1), true) else (0, false)
theorem dig_toNat (m : Nat) : (UInt8.ofNat (48 + m % 10)).toNat = 48 + m % 10 := by
  rw [UInt8.toNat_ofNat']
  omega
theorem digs_dig : ∀ m : Nat, (digsR m).all isDig = true := by
  intro m
  induction m using Nat.strongRecOn with
  | ind m ih =>
    rw [digsR_step, List.all_cons]
    have h1 : isDig (UInt8.ofNat (48 + m % 10)) = true := by
      unfold isDig
      rw [dig_toNat, decide_eq_true (by omega), decide_eq_true (by omega)]
      rfl
    rw [h1, Bool.true_and]
    split
    · rfl
    · exact ih _ (by omega)
theorem digFold_digs : ∀ m : Nat, m ≤ 9223372036854775808 → digFold (digsR m).reverse = -(m : Int) := by
  intro m
  induction m using Nat.strongRecOn with
  | ind m ih =>
    intro hm
    have hp : digFold (if m / 10 = 0 then [] else digsR (m / 10)).reverse = -((m / 10 : Nat) : Int) := by
      split
      · next h => rw [h]; rfl
      · exact ih _ (by omega) (by omega)
    rw [digsR_step, List.reverse_cons]
    unfold digFold at hp ⊢
    rw [List.foldl_append, hp]
    show stepD (-((m / 10 : Nat) : Int)) (UInt8.ofNat (48 + m % 10)) = _
    unfold stepD
    have h1 : IntKind.i64.wrap (10 * -((m / 10 : Nat) : Int)) = 10 * -((m / 10 : Nat) : Int) := wrap_eq (by omega) (by omega)
    rw [dig_toNat, h1, wrap_eq (by omega) (by omega)]
    omega
theorem digs_ok (m : Nat) (hm : m ≤ 9223372036854775808) : okD (digsR m).reverse = true := by
  unfold okD
  rw [List.all_reverse, digs_dig, List.length_reverse, Bool.true_and, decide_eq_true_iff]
  exact digsR_log 18 m (by have : (10 : Nat) ^ 19 = 10000000000000000000 := by decide
                           omega)
theorem minus_digs (ds : List UInt8) (h : ds.all isDig = true) : minusL ds = (ds, false) := by
  cases ds with
  | nil => rfl
  | cons b l =>
    rw [List.all_cons, Bool.and_eq_true] at h
    have hb : ¬ b = 45 := fun e => by rw [e] at h; exact absurd h.1 (by decide)
    show (if b = 45 then (l, true) else (b :: l, false)) = _
    rw [if_neg hb]
theorem numV_txt (n : Int) (h0 : -9223372036854775808 ≤ n) (h1 : n < 9223372036854775808) : numV (txt n) = (n, true) := by
  have hm : n.natAbs ≤ 9223372036854775808 := by omega
  have hf := digFold_digs n.natAbs hm
  unfold numV txt
  by_cases hn : n < 0
  · rw [if_pos hn]
    show (if okD (digsR n.natAbs).reverse = true then (if true = true then digFold (digsR n.natAbs).reverse else _, true) else _) = _
    rw [if_pos (digs_ok _ hm), if_pos rfl, hf]
    congr 1
    omega
  · rw [if_neg hn, minus_digs _ (by rw [List.all_reverse]; exact digs_dig _)]
    dsimp only
    rw [if_pos (digs_ok _ hm), if_neg (by decide), hf, wrap_eq (by omega) (by omega)]
    congr 1
    omega
theorem stepD_range (n : Int) (c : UInt8) : -9223372036854775808 ≤ stepD n c ∧ stepD n c < 9223372036854775808 := by
  unfold stepD
  rw [IntKind.wrap_i64]
  omega
theorem digFold_range (ds : List UInt8) : -9223372036854775808 ≤ digFold ds ∧ digFold ds < 9223372036854775808 := by
  unfold digFold
  have : ∀ (ds : List UInt8) (n : Int), (-9223372036854775808 ≤ n ∧ n < 9223372036854775808) → -9223372036854775808 ≤ ds.foldl stepD n ∧ ds.foldl stepD n < 9223372036854775808 := by
    intro ds
    induction ds with
    | nil => intro n h; exact h
    | cons c ds ih => intro n h; exact ih _ (stepD_range n c)
  exact this ds 0 ⟨by decide, by decide⟩
theorem numV_range (w : List UInt8) : -9223372036854775808 ≤ (numV w).1 ∧ (numV w).1 < 9223372036854775808 := by
  unfold numV
  split
  · dsimp only
    split
    · exact digFold_range _
    · rw [IntKind.wrap_i64]
      omega
  · exact ⟨by decide, by decide⟩
/-- A reader as told. -/
structure RD where
  rest : List UInt8
  more : Bool
  bad : Bool
theorem one_str (s : ByteArray) : ∀ v ∈ [Value.string s], v.oneCell' = true := by
  intro v hv
  rw [List.mem_singleton] at hv
  rw [hv]
  rfl
abbrev rdO (rest : List UInt8) (more bad : Bool) : Obj := .cells #[str rest, .bool more, .bool bad] 44
def rdR (r : RD) : Obj := rdO r.rest r.more r.bad
def wordS (r : RD) : List UInt8 × RD := if r.more = true then ((cutL r.rest).1, ⟨(cutL r.rest).2.1, (cutL r.rest).2.2, r.bad⟩) else ([], ⟨r.rest, r.more, true⟩)
theorem cutL_len (l : List UInt8) : (cutL l).2.1.length ≤ l.length := by
  rcases cutL_idx l with ⟨_, h⟩ | ⟨i, _, _, h⟩
  · rw [h]; exact Nat.zero_le _
  · rw [h]; show (l.drop (i + 1)).length ≤ _; rw [List.length_drop]; omega
theorem word (r : RD) (b : Nat) (F : Heap) (hb : F b = some (rdR r)) (hl : r.rest.length ≤ 1000000) : FnK Try.prog 17 #[.pointer (some ⟨b, 0, none⟩)] F (fun v F' => v = str (wordS r).1 ∧ F' = F.put b (rdR (wordS r).2)) := by
  obtain ⟨rest, more, bad⟩ := r
  replace hb : F b = some (rdO rest more bad) := hb
  replace hl : rest.length ≤ 1000000 := hl
  cases more with
  | false =>
    show FnK _ _ _ _ (fun v F' => v = str [] ∧ F' = F.put b (rdO rest false true))
    (refine fn_walk tab_ok Try.func17 rfl rfl rfl rfl ?_; (conv => whnf))
    ((conv => whnf); repeat (first | (apply load_at; (conv => lhs; whnf); (with_reducible assumption); rfl; (conv => whnf)) | (apply load_at; (conv => lhs; rw [add_plain, add_plain]); (with_reducible assumption); rfl; (conv => whnf)) | (apply loads_at; (conv => lhs; whnf); (with_reducible assumption); rfl; (conv => whnf)) | (refine ⟨⟨by omega, by omega⟩, ?_⟩; (conv => whnf))))
    refine store_step b 2 _ #[str rest, .bool false, .bool true] rfl hb rfl rfl (.inl (Nat.le_refl 0)) (one_bool _) ?_
    ((conv => whnf); repeat (first | (apply load_at; (conv => lhs; whnf); (with_reducible assumption); rfl; (conv => whnf)) | (apply load_at; (conv => lhs; rw [add_plain, add_plain]); (with_reducible assumption); rfl; (conv => whnf)) | (apply loads_at; (conv => lhs; whnf); (with_reducible assumption); rfl; (conv => whnf)) | (refine ⟨⟨by omega, by omega⟩, ?_⟩; (conv => whnf))))
    exact ⟨rfl, rfl⟩
  | true =>
    have hc := cut rest hl F
    show FnK _ _ _ _ (fun v F' => v = str (cutL rest).1 ∧ F' = F.put b (rdO (cutL rest).2.1 (cutL rest).2.2 bad))
    generalize cutL rest = p at hc
    (refine fn_walk tab_ok Try.func17 rfl rfl rfl rfl ?_; (conv => whnf))
    ((conv => whnf); repeat (first | (apply load_at; (conv => lhs; whnf); (with_reducible assumption); rfl; (conv => whnf)) | (apply load_at; (conv => lhs; rw [add_plain, add_plain]); (with_reducible assumption); rfl; (conv => whnf)) | (apply loads_at; (conv => lhs; whnf); (with_reducible assumption); rfl; (conv => whnf)) | (refine ⟨⟨by omega, by omega⟩, ?_⟩; (conv => whnf))))
    refine call_of hc ?_
    rintro v F1 ⟨rfl, rfl⟩
    ((conv => whnf); repeat (first | (apply load_at; (conv => lhs; whnf); (with_reducible assumption); rfl; (conv => whnf)) | (apply load_at; (conv => lhs; rw [add_plain, add_plain]); (with_reducible assumption); rfl; (conv => whnf)) | (apply loads_at; (conv => lhs; whnf); (with_reducible assumption); rfl; (conv => whnf)) | (refine ⟨⟨by omega, by omega⟩, ?_⟩; (conv => whnf))))
    refine store_step b 0 _ #[str p.2.1, .bool true, .bool bad] rfl hb rfl rfl (.inl (Nat.le_refl 0)) (one_str _) ?_
    have hb2 := Heap.put_same F1 b (.cells #[str p.2.1, .bool true, .bool bad] 44)
    ((conv => whnf); repeat (first | (apply load_at; (conv => lhs; whnf); (with_reducible assumption); rfl; (conv => whnf)) | (apply load_at; (conv => lhs; rw [add_plain, add_plain]); (with_reducible assumption); rfl; (conv => whnf)) | (apply loads_at; (conv => lhs; whnf); (with_reducible assumption); rfl; (conv => whnf)) | (refine ⟨⟨by omega, by omega⟩, ?_⟩; (conv => whnf))))
    refine store_step b 1 _ #[str p.2.1, .bool p.2.2, .bool bad] rfl hb2 rfl rfl (.inl (Nat.le_refl 0)) (one_bool _) ?_
    ((conv => whnf); repeat (first | (apply load_at; (conv => lhs; whnf); (with_reducible assumption); rfl; (conv => whnf)) | (apply load_at; (conv => lhs; rw [add_plain, add_plain]); (with_reducible assumption); rfl; (conv => whnf)) | (apply loads_at; (conv => lhs; whnf); (with_reducible assumption); rfl; (conv => whnf)) | (refine ⟨⟨by omega, by omega⟩, ?_⟩; (conv => whnf))))
    refine ⟨rfl, ?_⟩
    rw [Heap.put_put]
end Go.Proofs.Ytbgijjoemnfnmaa.Al
/- (*text.reader).num. -/
namespace Go.Proofs.Ytbgijjoemnfnmaa.Al
open Go Go.Al Go.Proofs Go.RowKit
set_option maxHeartbeats 8000000
set_option maxRecDepth 100000
set_option linter.unusedVariables false
set_option linter.unusedSimpArgs false
def numS (r : RD) : Int × RD := ((numV (wordS r).1).1, ⟨(wordS r).2.rest, (wordS r).2.more, (wordS r).2.bad || (!(numV (wordS r).1).2 || !(txt (numV (wordS r).1).1 == (wordS r).1))⟩)
theorem numS_fst (r : RD) : (numS r).1 = (numV (wordS r).1).1 := rfl
theorem minusL_len (w : List UInt8) : (minusL w).1.length ≤ w.length := by
  cases w with
  | nil => exact Nat.le_refl _
  | cons b l =>
    show (if b = 45 then (l, true) else (b :: l, false)).1.length ≤ _
    split
    · exact Nat.le_succ _
    · exact Nat.le_refl _
theorem wordS_len (r : RD) : (wordS r).1.length ≤ r.rest.length ∧ (wordS r).2.rest.length ≤ r.rest.length := by
  unfold wordS
  split
  · refine ⟨?_, cutL_len _⟩
    rcases cutL_idx r.rest with ⟨_, h⟩ | ⟨i, _, _, h⟩
    · rw [h]; exact Nat.le_refl _
    · rw [h]; show (r.rest.take i).length ≤ _; rw [List.length_take]; omega
  · exact ⟨Nat.zero_le _, Nat.le_refl _⟩
theorem dig_u8 (c : UInt8) : IntKind.u8.wrap ((c.toNat : Int) - 48) = if 48 ≤ c.toNat then (c.toNat : Int) - 48 else (c.toNat : Int) + 208 := by
  have : c.toNat < 256 := c.toNat_lt
  show ((c.toNat : Int) - 48) % 256 = _
  split <;> omega
theorem okD_step {ds : List UInt8} {j : Nat} {x : UInt8} (hx : ds[j]? = some x) (h : (ds.take j).all isDig = true) : (isDig x = true → (ds.take (j + 1)).all isDig = true) ∧ (isDig x = false → okD ds = false) := by
  obtain ⟨hj, hx'⟩ := List.getElem?_eq_some_iff.1 hx
  constructor
  · intro e
    rw [List.take_add_one, hx, List.all_append, h]
    simp [e]
  · intro e
    unfold okD
    have : ds.all isDig = false := by
      rw [← Bool.not_eq_true, List.all_eq_true]
      intro hh
      rw [hh x (hx' ▸ List.getElem_mem hj)] at e
      cases e
    rw [this]
    rfl
theorem digFold_step {ds : List UInt8} {j : Nat} {x : UInt8} (hx : ds[j]? = some x) : digFold (ds.take (j + 1)) = stepD (digFold (ds.take j)) x := by
  unfold digFold
  rw [List.take_add_one, hx, List.foldl_append]
  rfl
theorem numR (r : RD) (b : Nat) (F : Heap) (hb : F b = some (rdR r)) (hl : r.rest.length ≤ 1000000) : FnK Try.prog 31 #[.pointer (some ⟨b, 0, none⟩)] F (fun v F' => v = .int .i64 (numS r).1 ∧ F' b = some (rdR (numS r).2) ∧ Keeps F F' (some b)) := by
  have hw := word r b F hb hl
  have hwl := (wordS_len r).1
  have hd : numS r = ((numV (wordS r).1).1, ⟨(wordS r).2.rest, (wordS r).2.more, (wordS r).2.bad || (!(numV (wordS r).1).2 || !(txt (numV (wordS r).1).1 == (wordS r).1))⟩) := rfl
  generalize numS r = q at hd ⊢
  generalize wordS r = p at hw hwl hd
  obtain ⟨w, rest1, more1, bad1⟩ := p
  replace hwl : w.length ≤ 1000000 := Nat.le_trans hwl hl
  replace hw : FnK Try.prog 17 #[.pointer (some ⟨b, 0, none⟩)] F fun v F' => v = str w ∧ F' = F.put b (rdO rest1 more1 bad1) := hw
  replace hd : q = ((numV w).1, ⟨rest1, more1, bad1 || (!(numV w).2 || !(txt (numV w).1 == w))⟩) := hd
  have hnv : numV w = if okD (minusL w).1 = true then (if (minusL w).2 = true then digFold (minusL w).1 else IntKind.i64.wrap (0 - digFold (minusL w).1), true) else (0, false) := rfl
  have hrg := numV_range w
  have hm := cutMinus w
  have hml := minusL_len w
  generalize minusL w = m at hnv hm hml
  obtain ⟨ds, below⟩ := m
  replace hm : ∀ F, FnK Try.prog 50 #[str w, .string ⟨#[45]⟩] F (fun v F' => v = .tuple #[str ds, .bool below] ∧ F' = F) := hm
  replace hml : ds.length ≤ 1000000 := Nat.le_trans hml hwl
  replace hnv : numV w = if okD ds = true then (if below = true then digFold ds else IntKind.i64.wrap (0 - digFold ds), true) else (0, false) := hnv
  generalize numV w = nv at hnv hrg hd
  (refine fn_walk tab_ok Try.func31 rfl rfl rfl rfl ?_; (conv => whnf))
  refine call_of hw ?_
  rintro v F1 ⟨rfl, rfl⟩
  have hb1 := Heap.put_same F b (rdO rest1 more1 bad1)
  have hk1 := Keeps.put F b (rdO rest1 more1 bad1)
  generalize F.put b _ = F1 at hb1 hk1
  ((conv => whnf); repeat (first | (apply load_at; (conv => lhs; whnf); (with_reducible assumption); rfl; (conv => whnf)) | (apply load_at; (conv => lhs; rw [add_plain, add_plain]); (with_reducible assumption); rfl; (conv => whnf)) | (apply loads_at; (conv => lhs; whnf); (with_reducible assumption); rfl; (conv => whnf)) | (refine ⟨⟨by omega, by omega⟩, ?_⟩; (conv => whnf))))
  refine call_of (hm F1) ?_
  rintro v F2 ⟨rfl, rfl⟩
  ((conv => whnf); repeat (first | (apply load_at; (conv => lhs; whnf); (with_reducible assumption); rfl; (conv => whnf)) | (apply load_at; (conv => lhs; rw [add_plain, add_plain]); (with_reducible assumption); rfl; (conv => whnf)) | (apply loads_at; (conv => lhs; whnf); (with_reducible assumption); rfl; (conv => whnf)) | (refine ⟨⟨by omega, by omega⟩, ?_⟩; (conv => whnf))))
  refine conv_bytes tab_ok rfl rfl rfl rfl rfl fun g cs hg hgn htk => ?_
  ((conv => whnf); repeat (first | (apply load_at; (conv => lhs; whnf); (with_reducible assumption); rfl; (conv => whnf)) | (apply load_at; (conv => lhs; rw [add_plain, add_plain]); (with_reducible assumption); rfl; (conv => whnf)) | (apply loads_at; (conv => lhs; whnf); (with_reducible assumption); rfl; (conv => whnf)) | (refine ⟨⟨by omega, by omega⟩, ?_⟩; (conv => whnf))))
  have hE2 := Ext.new hg (.cells cs 5 (cs.size, cs.size + 1))
  have hcell : ∀ (j : Nat) (x : UInt8), ds[j]? = some x → (F2.put g (.cells cs 5 (cs.size, cs.size + 1))).cell? ((⟨g, 0, none⟩ : Addr).add (Int.toNat (j : Int) * 1)) = some (.int .u8 (x.toNat : Int)) := by
    intro j x hx
    have hj : j < ds.length := (List.getElem?_eq_some_iff.1 hx).1
    have : (cs.toList.take (⟨ds.toArray⟩ : ByteArray).size)[j]? = some (.int .u8 (x.toNat : Int)) := by rw [htk]; simp [hx]
    rw [List.getElem?_take, if_pos (show j < (⟨ds.toArray⟩ : ByteArray).size from hj)] at this
    rw [Int.toNat_natCast, Nat.mul_one, add_plain, Nat.zero_add, Heap.cell_at (Heap.put_same _ _ _)]
    simpa using this
  have hb3 := hE2 _ _ hb1
  have hk3 := hk1.trans (hE2.keeps (some b))
  generalize F2.put g _ = F3 at hE2 hcell hb3 hk3
  refine loop_slots [0, 3, 4, 5, 6, 17, 18, 19] (fun k vs F' => ∃ j : Nat, j + k = ds.length ∧ vs = [.pointer (some ⟨b, 0, none⟩), str w, str ds, .bool below, .int .i64 (digFold (ds.take j)), .slice (some ⟨g, 0, none⟩) ds.length cs.size, .int .i64 (ds.length : Int), .int .i64 (j : Int)] ∧ (ds.take j).all isDig = true ∧ (j = 0 ∨ ds.length ≤ 19) ∧ F' = F3) ds.length ⟨0, by omega, rfl, rfl, .inl rfl, rfl⟩ ?_
  rintro k vs F4 ρ ⟨j, hjk, rfl, hall, h19, rfl⟩
  ((conv => whnf); repeat (first | (apply load_at; (conv => lhs; whnf); (with_reducible assumption); rfl; (conv => whnf)) | (apply load_at; (conv => lhs; rw [add_plain, add_plain]); (with_reducible assumption); rfl; (conv => whnf)) | (apply loads_at; (conv => lhs; whnf); (with_reducible assumption); rfl; (conv => whnf)) | (refine ⟨⟨by omega, by omega⟩, ?_⟩; (conv => whnf))))
  refine cond_split (fun h => ?_) (fun h => ?_)
  · have hj : j < ds.length := by have := of_decide_eq_true h; omega
    have hx : ds[j]? = some ds[j] := List.getElem?_eq_getElem hj
    have hst := okD_step hx hall
    have hfs := digFold_step hx
    have hc := hcell j _ hx
    generalize ds[j] = x at hx hst hfs hc
    have hws : IntKind.i64.wrap ((j : Int) + 1) = ((j + 1 : Nat) : Int) := wrap_succ (by omega)
    ((conv => whnf); repeat (first | (apply load_at; (conv => lhs; whnf); (with_reducible assumption); rfl; (conv => whnf)) | (apply load_at; (conv => lhs; rw [add_plain, add_plain]); (with_reducible assumption); rfl; (conv => whnf)) | (apply loads_at; (conv => lhs; whnf); (with_reducible assumption); rfl; (conv => whnf)) | (refine ⟨⟨by omega, by omega⟩, ?_⟩; (conv => whnf))))
    refine load_step hc ?_
    ((conv => whnf); repeat (first | (apply load_at; (conv => lhs; whnf); (with_reducible assumption); rfl; (conv => whnf)) | (apply load_at; (conv => lhs; rw [add_plain, add_plain]); (with_reducible assumption); rfl; (conv => whnf)) | (apply loads_at; (conv => lhs; whnf); (with_reducible assumption); rfl; (conv => whnf)) | (refine ⟨⟨by omega, by omega⟩, ?_⟩; (conv => whnf))))
    have hsplit : isDig x = (decide (48 ≤ x.toNat) && decide (x.toNat ≤ 57)) := rfl
    have hxl : x.toNat < 256 := x.toNat_lt
    refine cond_split (fun h1 => ?_) (fun h1 => ?_)
    · replace h1 : 48 ≤ x.toNat := by
        have h1 : (!decide ((x.toNat : Int) < 48)) = true := h1
        simp at h1; omega
      ((conv => whnf); repeat (first | (apply load_at; (conv => lhs; whnf); (with_reducible assumption); rfl; (conv => whnf)) | (apply load_at; (conv => lhs; rw [add_plain, add_plain]); (with_reducible assumption); rfl; (conv => whnf)) | (apply loads_at; (conv => lhs; whnf); (with_reducible assumption); rfl; (conv => whnf)) | (refine ⟨⟨by omega, by omega⟩, ?_⟩; (conv => whnf))))
      refine cond_split (fun h2 => ?_) (fun h2 => ?_)
      · replace h2 : x.toNat ≤ 57 := by
          have h2 : (!decide ((x.toNat : Int) > 57)) = true := h2
          simp at h2; omega
        have hdig : isDig x = true := by rw [hsplit, decide_eq_true h1, decide_eq_true h2]; rfl
        ((conv => whnf); repeat (first | (apply load_at; (conv => lhs; whnf); (with_reducible assumption); rfl; (conv => whnf)) | (apply load_at; (conv => lhs; rw [add_plain, add_plain]); (with_reducible assumption); rfl; (conv => whnf)) | (apply loads_at; (conv => lhs; whnf); (with_reducible assumption); rfl; (conv => whnf)) | (refine ⟨⟨by omega, by omega⟩, ?_⟩; (conv => whnf))))
        refine cond_split (fun h3 => ?_) (fun h3 => ?_)
        · have hno : okD ds = false := by
            have h3 : decide ((ds.length : Int) > 19) = true := h3
            have := of_decide_eq_true h3
            unfold okD
            rw [decide_eq_false (by omega), Bool.and_false]
          rw [hno] at hnv
          rw [if_neg (by decide)] at hnv
          rw [hnv] at hd
          ((conv => whnf); repeat (first | (apply load_at; (conv => lhs; whnf); (with_reducible assumption); rfl; (conv => whnf)) | (apply load_at; (conv => lhs; rw [add_plain, add_plain]); (with_reducible assumption); rfl; (conv => whnf)) | (apply loads_at; (conv => lhs; whnf); (with_reducible assumption); rfl; (conv => whnf)) | (refine ⟨⟨by omega, by omega⟩, ?_⟩; (conv => whnf))))
          refine store_step b 2 _ #[str rest1, .bool more1, .bool true] rfl hb3 rfl rfl (.inl (Nat.le_refl 0)) (one_bool _) ?_
          ((conv => whnf); repeat (first | (apply load_at; (conv => lhs; whnf); (with_reducible assumption); rfl; (conv => whnf)) | (apply load_at; (conv => lhs; rw [add_plain, add_plain]); (with_reducible assumption); rfl; (conv => whnf)) | (apply loads_at; (conv => lhs; whnf); (with_reducible assumption); rfl; (conv => whnf)) | (refine ⟨⟨by omega, by omega⟩, ?_⟩; (conv => whnf))))
          refine ⟨by rw [hd]; rfl, ?_, hk3.trans (Keeps.put _ _ _)⟩
          rw [hd, Bool.or_comm]
          exact Heap.put_same _ _ _
        · have h3 : decide ((ds.length : Int) > 19) = false := h3
          have h3 := of_decide_eq_false h3
          ((conv => whnf); repeat (first | (apply load_at; (conv => lhs; whnf); (with_reducible assumption); rfl; (conv => whnf)) | (apply load_at; (conv => lhs; rw [add_plain, add_plain]); (with_reducible assumption); rfl; (conv => whnf)) | (apply loads_at; (conv => lhs; whnf); (with_reducible assumption); rfl; (conv => whnf)) | (refine ⟨⟨by omega, by omega⟩, ?_⟩; (conv => whnf))))
          refine ⟨k - 1, by omega, j + 1, by omega, ?_, hst.1 hdig, .inr (by omega), rfl⟩
          have hu : IntKind.u8.wrap ((x.toNat : Int) - 48) = (x.toNat : Int) - 48 := by rw [dig_u8, if_pos h1]
          have hv : IntKind.i64.wrap (IntKind.i64.wrap (10 * digFold (ds.take j)) - IntKind.i64.wrap (IntKind.u8.wrap ((x.toNat : Int) - 48))) = digFold (ds.take (j + 1)) := by
            have : IntKind.i64.wrap ((x.toNat : Int) - 48) = (x.toNat : Int) - 48 := wrap_eq (by omega) (by omega)
            rw [hu, this, hfs]
            rfl
          rw [← hv, ← hws]
          rfl
      · have hno : okD ds = false := hst.2 (by
          have h2 : (!decide ((x.toNat : Int) > 57)) = false := h2
          simp at h2
          rw [hsplit, decide_eq_false (show ¬ x.toNat ≤ 57 by omega), Bool.and_false])
        rw [hno] at hnv
        rw [if_neg (by decide)] at hnv
        rw [hnv] at hd
        ((conv => whnf); repeat (first | (apply load_at; (conv => lhs; whnf); (with_reducible assumption); rfl; (conv => whnf)) | (apply load_at; (conv => lhs; rw [add_plain, add_plain]); (with_reducible assumption); rfl; (conv => whnf)) | (apply loads_at; (conv => lhs; whnf); (with_reducible assumption); rfl; (conv => whnf)) | (refine ⟨⟨by omega, by omega⟩, ?_⟩; (conv => whnf))))
        refine store_step b 2 _ #[str rest1, .bool more1, .bool true] rfl hb3 rfl rfl (.inl (Nat.le_refl 0)) (one_bool _) ?_
        ((conv => whnf); repeat (first | (apply load_at; (conv => lhs; whnf); (with_reducible assumption); rfl; (conv => whnf)) | (apply load_at; (conv => lhs; rw [add_plain, add_plain]); (with_reducible assumption); rfl; (conv => whnf)) | (apply loads_at; (conv => lhs; whnf); (with_reducible assumption); rfl; (conv => whnf)) | (refine ⟨⟨by omega, by omega⟩, ?_⟩; (conv => whnf))))
        refine ⟨by rw [hd]; rfl, ?_, hk3.trans (Keeps.put _ _ _)⟩
        rw [hd, Bool.or_comm]
        exact Heap.put_same _ _ _
    · have hno : okD ds = false := hst.2 (by
        have h1 : (!decide ((x.toNat : Int) < 48)) = false := h1
        simp at h1
        rw [hsplit, decide_eq_false (show ¬ 48 ≤ x.toNat by omega)]
        rfl)
      rw [hno] at hnv
      rw [if_neg (by decide)] at hnv
      rw [hnv] at hd
      ((conv => whnf); repeat (first | (apply load_at; (conv => lhs; whnf); (with_reducible assumption); rfl; (conv => whnf)) | (apply load_at; (conv => lhs; rw [add_plain, add_plain]); (with_reducible assumption); rfl; (conv => whnf)) | (apply loads_at; (conv => lhs; whnf); (with_reducible assumption); rfl; (conv => whnf)) | (refine ⟨⟨by omega, by omega⟩, ?_⟩; (conv => whnf))))
      refine store_step b 2 _ #[str rest1, .bool more1, .bool true] rfl hb3 rfl rfl (.inl (Nat.le_refl 0)) (one_bool _) ?_
      ((conv => whnf); repeat (first | (apply load_at; (conv => lhs; whnf); (with_reducible assumption); rfl; (conv => whnf)) | (apply load_at; (conv => lhs; rw [add_plain, add_plain]); (with_reducible assumption); rfl; (conv => whnf)) | (apply loads_at; (conv => lhs; whnf); (with_reducible assumption); rfl; (conv => whnf)) | (refine ⟨⟨by omega, by omega⟩, ?_⟩; (conv => whnf))))
      refine ⟨by rw [hd]; rfl, ?_, hk3.trans (Keeps.put _ _ _)⟩
      rw [hd, Bool.or_comm]
      exact Heap.put_same _ _ _
  · have hj : j = ds.length := by have := of_decide_eq_false h; omega
    subst hj
    rw [List.take_length] at hall
    have hok : okD ds = true := by
      unfold okD
      rw [hall, decide_eq_true (by omega : ds.length ≤ 19)]
      rfl
    rw [if_pos hok] at hnv
    obtain ⟨n, ok⟩ := nv
    obtain ⟨rfl, rfl⟩ : n = (if below = true then digFold ds else IntKind.i64.wrap (0 - digFold ds)) ∧ ok = true := by
      simpa using hnv
    rw [List.take_length]
    have hdr := digFold_range ds
    generalize digFold ds = z at hd hrg hdr
    have hq := fun l : List UInt8 => str_beq l w
    have tail : ∀ (n : Int) (F5 : Heap), n = (if below = true then z else IntKind.i64.wrap (0 - z)) → ∀ l, l = txt n → F5 b = some (rdO rest1 more1 bad1) → Keeps F F5 (some b) → ∀ bd, bd = (bad1 || !(l == w)) → Value.int .i64 n = .int .i64 q.1 ∧ (F5.put b (rdO rest1 more1 bd)) b = some (rdR q.2) ∧ Keeps F (F5.put b (rdO rest1 more1 bd)) (some b) := by
      intro n F5 hn l hlt hb5 hk5 bd hbd
      rw [← hn] at hd
      refine ⟨by rw [hd], ?_, hk5.trans (Keeps.put _ _ _)⟩
      rw [hd, hbd, hlt]
      exact Heap.put_same _ _ _
    cases below with
    | true =>
      have ht := text z hdr.1 hdr.2
      cases bad1 with
      | true =>
        ((conv => whnf); repeat (first | (apply load_at; (conv => lhs; whnf); (with_reducible assumption); rfl; (conv => whnf)) | (apply load_at; (conv => lhs; rw [add_plain, add_plain]); (with_reducible assumption); rfl; (conv => whnf)) | (apply loads_at; (conv => lhs; whnf); (with_reducible assumption); rfl; (conv => whnf)) | (refine ⟨⟨by omega, by omega⟩, ?_⟩; (conv => whnf))))
        refine store_step b 2 _ #[str rest1, .bool more1, .bool true] rfl hb3 rfl rfl (.inl (Nat.le_refl 0)) (one_bool _) ?_
        ((conv => whnf); repeat (first | (apply load_at; (conv => lhs; whnf); (with_reducible assumption); rfl; (conv => whnf)) | (apply load_at; (conv => lhs; rw [add_plain, add_plain]); (with_reducible assumption); rfl; (conv => whnf)) | (apply loads_at; (conv => lhs; whnf); (with_reducible assumption); rfl; (conv => whnf)) | (refine ⟨⟨by omega, by omega⟩, ?_⟩; (conv => whnf))))
        exact tail _ F4 rfl _ rfl hb3 hk3 _ rfl
      | false =>
        ((conv => whnf); repeat (first | (apply load_at; (conv => lhs; whnf); (with_reducible assumption); rfl; (conv => whnf)) | (apply load_at; (conv => lhs; rw [add_plain, add_plain]); (with_reducible assumption); rfl; (conv => whnf)) | (apply loads_at; (conv => lhs; whnf); (with_reducible assumption); rfl; (conv => whnf)) | (refine ⟨⟨by omega, by omega⟩, ?_⟩; (conv => whnf))))
        refine call_of (ht F4) ?_
        rintro v F5 ⟨rfl, hE5⟩
        have hb5 := hE5 _ _ hb3
        have hk5 := hk3.trans (hE5.keeps (some b))
        ((conv => whnf); repeat (first | (apply load_at; (conv => lhs; whnf); (with_reducible assumption); rfl; (conv => whnf)) | (apply load_at; (conv => lhs; rw [add_plain, add_plain]); (with_reducible assumption); rfl; (conv => whnf)) | (apply loads_at; (conv => lhs; whnf); (with_reducible assumption); rfl; (conv => whnf)) | (refine ⟨⟨by omega, by omega⟩, ?_⟩; (conv => whnf))))
        have hqq := hq (txt (z))
        refine store_step b 2 _ #[str rest1, .bool more1, .bool (!(txt (z) == w))] rfl hb5 ?_ rfl (.inl (Nat.le_refl 0)) (one_bool _) ?_
        · have hx : (putL [str rest1, .bool more1, .bool false] 2 [Value.bool (!((⟨(txt (z)).toArray⟩ : ByteArray).toList == (⟨w.toArray⟩ : ByteArray).toList))]).toArray = #[str rest1, .bool more1, .bool (!(txt (z) == w))] := by
            rw [hqq]
            rfl
          exact hx
        ((conv => whnf); repeat (first | (apply load_at; (conv => lhs; whnf); (with_reducible assumption); rfl; (conv => whnf)) | (apply load_at; (conv => lhs; rw [add_plain, add_plain]); (with_reducible assumption); rfl; (conv => whnf)) | (apply loads_at; (conv => lhs; whnf); (with_reducible assumption); rfl; (conv => whnf)) | (refine ⟨⟨by omega, by omega⟩, ?_⟩; (conv => whnf))))
        exact tail _ F5 rfl _ rfl hb5 hk5 _ rfl
    | false =>
      have ht := text (IntKind.i64.wrap (0 - z)) hrg.1 hrg.2
      cases bad1 with
      | true =>
        ((conv => whnf); repeat (first | (apply load_at; (conv => lhs; whnf); (with_reducible assumption); rfl; (conv => whnf)) | (apply load_at; (conv => lhs; rw [add_plain, add_plain]); (with_reducible assumption); rfl; (conv => whnf)) | (apply loads_at; (conv => lhs; whnf); (with_reducible assumption); rfl; (conv => whnf)) | (refine ⟨⟨by omega, by omega⟩, ?_⟩; (conv => whnf))))
        refine store_step b 2 _ #[str rest1, .bool more1, .bool true] rfl hb3 rfl rfl (.inl (Nat.le_refl 0)) (one_bool _) ?_
        ((conv => whnf); repeat (first | (apply load_at; (conv => lhs; whnf); (with_reducible assumption); rfl; (conv => whnf)) | (apply load_at; (conv => lhs; rw [add_plain, add_plain]); (with_reducible assumption); rfl; (conv => whnf)) | (apply loads_at; (conv => lhs; whnf); (with_reducible assumption); rfl; (conv => whnf)) | (refine ⟨⟨by omega, by omega⟩, ?_⟩; (conv => whnf))))
        exact tail _ F4 rfl _ rfl hb3 hk3 _ rfl
      | false =>
        ((conv => whnf); repeat (first | (apply load_at; (conv => lhs; whnf); (with_reducible assumption); rfl; (conv => whnf)) | (apply load_at; (conv => lhs; rw [add_plain, add_plain]); (with_reducible assumption); rfl; (conv => whnf)) | (apply loads_at; (conv => lhs; whnf); (with_reducible assumption); rfl; (conv => whnf)) | (refine ⟨⟨by omega, by omega⟩, ?_⟩; (conv => whnf))))
        refine call_of (ht F4) ?_
        rintro v F5 ⟨rfl, hE5⟩
        have hb5 := hE5 _ _ hb3
        have hk5 := hk3.trans (hE5.keeps (some b))
        ((conv => whnf); repeat (first | (apply load_at; (conv => lhs; whnf); (with_reducible assumption); rfl; (conv => whnf)) | (apply load_at; (conv => lhs; rw [add_plain, add_plain]); (with_reducible assumption); rfl; (conv => whnf)) | (apply loads_at; (conv => lhs; whnf); (with_reducible assumption); rfl; (conv => whnf)) | (refine ⟨⟨by omega, by omega⟩, ?_⟩; (conv => whnf))))
        have hqq := hq (txt (IntKind.i64.wrap (0 - z)))
        refine store_step b 2 _ #[str rest1, .bool more1, .bool (!(txt (IntKind.i64.wrap (0 - z)) == w))] rfl hb5 ?_ rfl (.inl (Nat.le_refl 0)) (one_bool _) ?_
        · have hx : (putL [str rest1, .bool more1, .bool false] 2 [Value.bool (!((⟨(txt (IntKind.i64.wrap (0 - z))).toArray⟩ : ByteArray).toList == (⟨w.toArray⟩ : ByteArray).toList))]).toArray = #[str rest1, .bool more1, .bool (!(txt (IntKind.i64.wrap (0 - z)) == w))] := by
            rw [hqq]
            rfl
          exact hx
        ((conv => whnf); repeat (first | (apply load_at; (conv => lhs; whnf); (with_reducible assumption); rfl; (conv => whnf)) | (apply load_at; (conv => lhs; rw [add_plain, add_plain]); (with_reducible assumption); rfl; (conv => whnf)) | (apply loads_at; (conv => lhs; whnf); (with_reducible assumption); rfl; (conv => whnf)) | (refine ⟨⟨by omega, by omega⟩, ?_⟩; (conv => whnf))))
        exact tail _ F5 rfl _ rfl hb5 hk5 _ rfl
end Go.Proofs.Ytbgijjoemnfnmaa.Al
/- (*text.reader).lines. -/
namespace Go.Proofs.Ytbgijjoemnfnmaa.Al
open Go Go.Al Go.Proofs Go.RowKit
set_option maxHeartbeats 8000000
set_option maxRecDepth 100000
set_option linter.unusedVariables false
set_option linter.unusedSimpArgs false
def mu (r : RD) : Nat := if r.more = true then r.rest.length + 1 else 0
def lineS (thr : Bool) (r : RD) : LD × RD := if thr = true then (⟨(numS r).1, (numS (numS r).2).1, 0, (numS (numS (numS r).2).2).1⟩, (numS (numS (numS r).2).2).2) else (⟨0, 0, (numS r).1, (numS (numS r).2).1⟩, (numS (numS r).2).2)
def linesS (thr : Bool) : Nat → RD → List LD × RD
  | 0, r => ([], r)
  | m + 1, r => if (r.more && !r.bad) = true then ((lineS thr r).1 :: (linesS thr m (lineS thr r).2).1, (linesS thr m (lineS thr r).2).2) else ([], r)
theorem linesS_go {thr : Bool} {m : Nat} {r : RD} (h : (r.more && !r.bad) = true) : linesS thr (m + 1) r = ((lineS thr r).1 :: (linesS thr m (lineS thr r).2).1, (linesS thr m (lineS thr r).2).2) := if_pos h
theorem linesS_end {thr : Bool} {m : Nat} {r : RD} (h : (r.more && !r.bad) = false) : linesS thr m r = ([], r) := by
  cases m with
  | zero => rfl
  | succ m => exact if_neg (by rw [h]; decide)
theorem mu_word (r : RD) : mu (wordS r).2 ≤ mu r ∧ (r.more = true → mu (wordS r).2 < mu r) := by
  unfold wordS mu
  by_cases h : r.more = true
  · rw [if_pos h, if_pos h]
    rcases cutL_idx r.rest with ⟨_, e⟩ | ⟨i, _, hi, e⟩
    · rw [e]
      show (if false = true then _ else 0) ≤ _ ∧ (_ → (if false = true then _ else 0) < _)
      rw [if_neg (by decide)]
      omega
    · rw [e]
      show (if true = true then (r.rest.drop (i + 1)).length + 1 else 0) ≤ _ ∧ (_ → (if true = true then (r.rest.drop (i + 1)).length + 1 else 0) < _)
      rw [if_pos rfl, List.length_drop]
      omega
  · rw [if_neg h, if_neg h]
    exact ⟨Nat.le_refl 0, fun e => absurd e h⟩
theorem mu_num (r : RD) : mu (numS r).2 ≤ mu r ∧ (r.more = true → mu (numS r).2 < mu r) := mu_word r
theorem numS_rest (r : RD) : (numS r).2.rest.length ≤ r.rest.length := (wordS_len r).2
theorem lineS_rest (thr : Bool) (r : RD) : (lineS thr r).2.rest.length ≤ r.rest.length ∧ (r.more = true → mu (lineS thr r).2 < mu r) := by
  have h1 := mu_num r
  have h2 := mu_num (numS r).2
  have h3 := mu_num (numS (numS r).2).2
  have k1 := numS_rest r
  have k2 := numS_rest (numS r).2
  have k3 := numS_rest (numS (numS r).2).2
  unfold lineS
  split
  · exact ⟨by dsimp only; omega, fun h => by have := h1.2 h; dsimp only; omega⟩
  · exact ⟨by dsimp only; omega, fun h => by have := h1.2 h; dsimp only; omega⟩
theorem linesS_rest (thr : Bool) : ∀ (m : Nat) (r : RD), (linesS thr m r).2.rest.length ≤ r.rest.length
  | 0, r => Nat.le_refl _
  | m + 1, r => by
    cases h : (r.more && !r.bad) with
    | false => rw [linesS_end h]; exact Nat.le_refl _
    | true => rw [linesS_go h]; exact Nat.le_trans (linesS_rest thr m _) (lineS_rest thr r).1
theorem linesV_app (a b : List LD) : linesV (a ++ b) = linesV a ++ linesV b := by unfold linesV; rw [List.flatMap_append]
theorem line_reader : (41 : Nat) ≠ 44 := by decide
theorem one_line (l : LD) : ∀ v ∈ lineV l, v.oneCell' = true := by
  intro v hv
  unfold lineV at hv
  simp only [List.mem_cons, List.not_mem_nil, or_false] at hv
  rcases hv with rfl | rfl | rfl | rfl <;> rfl
def thrF (thr : Bool) : Nat := if thr = true then 11 else 12
theorem linesR (thr : Bool) (r : RD) (b : Nat) (F : Heap) (hb : F b = some (rdR r)) (hl : r.rest.length ≤ 1000000) : FnK Try.prog 30 #[.pointer (some ⟨b, 0, none⟩), .int .i64 (thrF thr : Int)] F (fun v F' => ∃ A c, v = .slice A (linesS thr (mu r) r).1.length c ∧ RowAt F' A (linesV (linesS thr (mu r) r).1) ∧ (∀ a, A = some a → F a.block = none) ∧ F' b = some (rdR (linesS thr (mu r) r).2) ∧ Keeps F F' (some b)) := by
  have hmu : mu r ≤ 1000001 := by unfold mu; split <;> omega
  obtain ⟨res, hres⟩ : ∃ q, q = linesS thr (mu r) r := ⟨_, rfl⟩
  rw [← hres]
  have hmr : mu r ≤ mu r := Nat.le_refl _
  have hF0 : lessL F [b] b = none := lessL_none (by simp)
  have hthr : ((thrF thr : Nat) : Int) = if thr = true then 11 else 12 := by cases thr <;> rfl
  (refine fn_walk tab_ok Try.func30 rfl rfl rfl rfl ?_; (conv => whnf))
  refine loop_slots [0, 1, 5] (fun k vs F' => ∃ (S : Value) (r' : RD) (done : List LD), vs = [.pointer (some ⟨b, 0, none⟩), .int .i64 (thrF thr : Int), S] ∧ mu r' ≤ k ∧ done.length + k ≤ 1000001 ∧ r'.rest.length ≤ 1000000 ∧ res = (done ++ (linesS thr k r').1, (linesS thr k r').2) ∧ F' b = some (rdR r') ∧ Mine (lessL F [b]) F' S 41 4 done.length (linesV done) ∧ Keeps F F' (some b)) (mu r) ⟨_, r, [], rfl, hmr, by simp; omega, hl, by rw [hres]; rfl, hb, Mine.nil _ _ _ _ (lessL_ext F [b]), fun c o hc _ => hc⟩ ?_
  rintro k vs F2 ρ ⟨S, r', done, rfl, hmk, hdl, hrl, hrs, hb2, hM, hk2⟩
  obtain ⟨rest, more, bad⟩ := r'
  cases more with
  | false =>
    have hb2' : F2 b = some (rdO rest false bad) := hb2
    rw [linesS_end rfl, List.append_nil] at hrs
    obtain ⟨A, c, rfl, hnc, hrow⟩ := hM.own.row
    have hfr : ∀ a, A = some a → F a.block = none := fun a ha => by
      have h1 : lessL F [b] a.block = none := hM.fresh _ (by rw [ha]; rfl)
      have h2 : a.block ≠ b := fun e => hM.own.blk_ne hb2' line_reader (by rw [ha, ← e]; rfl)
      rw [lessL_at (by simpa using h2)] at h1
      exact h1
    ((conv => whnf); repeat (first | (apply load_at; (conv => lhs; whnf); (with_reducible assumption); rfl; (conv => whnf)) | (apply load_at; (conv => lhs; rw [add_plain, add_plain]); (with_reducible assumption); rfl; (conv => whnf)) | (apply loads_at; (conv => lhs; whnf); (with_reducible assumption); rfl; (conv => whnf)) | (refine ⟨⟨by omega, by omega⟩, ?_⟩; (conv => whnf))))
    refine ⟨A, c, ?_, ?_, hfr, ?_, hk2⟩
    · rw [hrs]; rfl
    · rw [hrs]; exact hrow
    · rw [hrs]; exact hb2
  | true =>
    cases bad with
    | true =>
      have hb2' : F2 b = some (rdO rest true true) := hb2
      rw [linesS_end rfl, List.append_nil] at hrs
      obtain ⟨A, c, rfl, hnc, hrow⟩ := hM.own.row
      have hfr : ∀ a, A = some a → F a.block = none := fun a ha => by
        have h1 : lessL F [b] a.block = none := hM.fresh _ (by rw [ha]; rfl)
        have h2 : a.block ≠ b := fun e => hM.own.blk_ne hb2' line_reader (by rw [ha, ← e]; rfl)
        rw [lessL_at (by simpa using h2)] at h1
        exact h1
      ((conv => whnf); repeat (first | (apply load_at; (conv => lhs; whnf); (with_reducible assumption); rfl; (conv => whnf)) | (apply load_at; (conv => lhs; rw [add_plain, add_plain]); (with_reducible assumption); rfl; (conv => whnf)) | (apply loads_at; (conv => lhs; whnf); (with_reducible assumption); rfl; (conv => whnf)) | (refine ⟨⟨by omega, by omega⟩, ?_⟩; (conv => whnf))))
      refine ⟨A, c, ?_, ?_, hfr, ?_, hk2⟩
      · rw [hrs]; rfl
      · rw [hrs]; exact hrow
      · rw [hrs]; exact hb2
    | false =>
      have hk1 : 1 ≤ k := by
        have : mu ⟨rest, true, false⟩ = rest.length + 1 := rfl
        omega
      obtain ⟨m, rfl⟩ : ∃ m, k = m + 1 := ⟨k - 1, by omega⟩
      rw [linesS_go rfl] at hrs
      obtain ⟨hlr, hlm⟩ := lineS_rest thr ⟨rest, true, false⟩
      replace hlm := hlm rfl
      have hb2' : F2 b = some (rdO rest true false) := hb2
      have hne : blk S ≠ some b := hM.own.blk_ne hb2' line_reader
      generalize hr0 : (⟨rest, true, false⟩ : RD) = r0 at hb2 hrs hlr hlm hmk hrl
      ((conv => whnf); repeat (first | (apply load_at; (conv => lhs; whnf); (with_reducible assumption); rfl; (conv => whnf)) | (apply load_at; (conv => lhs; rw [add_plain, add_plain]); (with_reducible assumption); rfl; (conv => whnf)) | (apply loads_at; (conv => lhs; whnf); (with_reducible assumption); rfl; (conv => whnf)) | (refine ⟨⟨by omega, by omega⟩, ?_⟩; (conv => whnf))))
      refine new_step (lineO 0 0 0 0) rfl fun x h0_x => ?_
      have hE_x := Ext.new h0_x (lineO 0 0 0 0)
      have hB_x := Heap.put_same F2 x (lineO 0 0 0 0)
      generalize F2.put x _ = F3 at hE_x hB_x ⊢
      have hb3 : F3 b = some (rdR r0) := hE_x _ _ hb2
      have hxb : x ≠ b := fun e => by rw [e, hb2] at h0_x; cases h0_x
      have hbx : b ≠ x := Ne.symm hxb
      have hM3 := hM.mono hE_x
      have hk3 := hk2.trans (hE_x.keeps (some b))
      have h0x : lessL F [b] x = none := by
        rw [lessL_at (by simpa using hxb)]
        cases e : F x with
        | none => rfl
        | some o => have := hk2 x o e (fun e => hbx (Option.some.inj e)); rw [h0_x] at this; cases this
      have hS : blk S ≠ some x := fun e => hM.own.there e h0_x
      have hkput : ∀ (G : Heap) (o : Obj), Keeps F G (some b) → Keeps F (G.put x o) (some b) := fun G o hK c u hc hcb => by
        rw [Heap.put_other G o (fun e => by
          rw [lessL_at (by rw [List.mem_singleton]; exact hxb)] at h0x
          rw [e, h0x] at hc; cases hc)]
        exact hK c u hc hcb
      have hnb : ∀ (q q' : RD), q'.rest.length ≤ q.rest.length → q.rest.length ≤ 1000000 → q'.rest.length ≤ 1000000 := fun _ _ h h' => Nat.le_trans h h'
      obtain ⟨q1, hq1⟩ : ∃ q, q = numS r0 := ⟨_, rfl⟩
      have t1 := numR r0 b F3 hb3 hrl
      have l1 : q1.2.rest.length ≤ 1000000 := by rw [hq1]; exact Nat.le_trans (numS_rest _) hrl
      rw [← hq1] at t1
      obtain ⟨n1, r1⟩ := q1
      replace t1 : FnK Try.prog 31 #[.pointer (some ⟨b, 0, none⟩)] F3 (fun v F' => v = .int .i64 n1 ∧ F' b = some (rdR r1) ∧ Keeps F3 F' (some b)) := t1
      obtain ⟨q2, hq2⟩ : ∃ q, q = numS r1 := ⟨_, rfl⟩
      have t2 := fun F h => numR r1 b F h l1
      have l2 : q2.2.rest.length ≤ 1000000 := by rw [hq2]; exact Nat.le_trans (numS_rest _) l1
      rw [← hq2] at t2
      obtain ⟨n2, r2⟩ := q2
      replace t2 : ∀ F, F b = some (rdR r1) → FnK Try.prog 31 #[.pointer (some ⟨b, 0, none⟩)] F (fun v F' => v = .int .i64 n2 ∧ F' b = some (rdR r2) ∧ Keeps F F' (some b)) := t2
      cases thr with
      | true =>
        obtain ⟨q3, hq3⟩ : ∃ q, q = numS r2 := ⟨_, rfl⟩
        have t3 := fun F h => numR r2 b F h l2
        have l3 : q3.2.rest.length ≤ 1000000 := by rw [hq3]; exact Nat.le_trans (numS_rest _) l2
        rw [← hq3] at t3
        obtain ⟨n3, r3⟩ := q3
        replace t3 : ∀ F, F b = some (rdR r2) → FnK Try.prog 31 #[.pointer (some ⟨b, 0, none⟩)] F (fun v F' => v = .int .i64 n3 ∧ F' b = some (rdR r3) ∧ Keeps F F' (some b)) := t3
        have hls : lineS true r0 = (⟨n1, n2, 0, n3⟩, r3) := by
          unfold lineS
          rw [if_pos rfl, ← hq1]
          dsimp only
          rw [← hq2]
          dsimp only
          rw [← hq3]
        rw [hls] at hrs hlm
        have hlm : mu r3 < mu r0 := hlm
        ((conv => whnf); repeat (first | (apply load_at; (conv => lhs; whnf); (with_reducible assumption); rfl; (conv => whnf)) | (apply load_at; (conv => lhs; rw [add_plain, add_plain]); (with_reducible assumption); rfl; (conv => whnf)) | (apply loads_at; (conv => lhs; whnf); (with_reducible assumption); rfl; (conv => whnf)) | (refine ⟨⟨by omega, by omega⟩, ?_⟩; (conv => whnf))))
        refine call_of t1 ?_
        rintro v F4 ⟨rfl, hb4, hkq⟩
        have hB4 := hkq _ _ hB_x (fun e => hbx (Option.some.inj e))
        have hM4 := hM3.keeps hne hkq hF0
        have hk4 := hk3.trans hkq
        ((conv => whnf); repeat (first | (apply load_at; (conv => lhs; whnf); (with_reducible assumption); rfl; (conv => whnf)) | (apply load_at; (conv => lhs; rw [add_plain, add_plain]); (with_reducible assumption); rfl; (conv => whnf)) | (apply loads_at; (conv => lhs; whnf); (with_reducible assumption); rfl; (conv => whnf)) | (refine ⟨⟨by omega, by omega⟩, ?_⟩; (conv => whnf))))
        refine call_of (t2 F4 hb4) ?_
        rintro v F5 ⟨rfl, hb5, hkq⟩
        have hB5 := hkq _ _ hB4 (fun e => hbx (Option.some.inj e))
        have hM5 := hM4.keeps hne hkq hF0
        have hk5 := hk4.trans hkq
        ((conv => whnf); repeat (first | (apply load_at; (conv => lhs; whnf); (with_reducible assumption); rfl; (conv => whnf)) | (apply load_at; (conv => lhs; rw [add_plain, add_plain]); (with_reducible assumption); rfl; (conv => whnf)) | (apply loads_at; (conv => lhs; whnf); (with_reducible assumption); rfl; (conv => whnf)) | (refine ⟨⟨by omega, by omega⟩, ?_⟩; (conv => whnf))))
        refine store_step x 0 _ #[.int .i64 n1, .int .i64 0, .int .i64 0, .int .i64 0] rfl hB5 rfl rfl (.inl (Nat.le_refl 0)) (one_int _ _) ?_
        have hB6 := Heap.put_same F5 x (lineO n1 0 0 0)
        have hb6 := (Heap.put_other F5 (lineO n1 0 0 0) hbx).trans hb5
        have hM6 := hM5.put h0x hS (lineO n1 0 0 0)
        have hk6 := hkput F5 (lineO n1 0 0 0) hk5
        generalize F5.put x _ = F6 at hB6 hb6 hM6 hk6 ⊢
        ((conv => whnf); repeat (first | (apply load_at; (conv => lhs; whnf); (with_reducible assumption); rfl; (conv => whnf)) | (apply load_at; (conv => lhs; rw [add_plain, add_plain]); (with_reducible assumption); rfl; (conv => whnf)) | (apply loads_at; (conv => lhs; whnf); (with_reducible assumption); rfl; (conv => whnf)) | (refine ⟨⟨by omega, by omega⟩, ?_⟩; (conv => whnf))))
        refine store_step x 1 _ #[.int .i64 n1, .int .i64 n2, .int .i64 0, .int .i64 0] rfl hB6 rfl rfl (.inl (Nat.le_refl 0)) (one_int _ _) ?_
        have hB7 := Heap.put_same F6 x (lineO n1 n2 0 0)
        have hb7 := (Heap.put_other F6 (lineO n1 n2 0 0) hbx).trans hb6
        have hM7 := hM6.put h0x hS (lineO n1 n2 0 0)
        have hk7 := hkput F6 (lineO n1 n2 0 0) hk6
        generalize F6.put x _ = F7 at hB7 hb7 hM7 hk7 ⊢
        ((conv => whnf); repeat (first | (apply load_at; (conv => lhs; whnf); (with_reducible assumption); rfl; (conv => whnf)) | (apply load_at; (conv => lhs; rw [add_plain, add_plain]); (with_reducible assumption); rfl; (conv => whnf)) | (apply loads_at; (conv => lhs; whnf); (with_reducible assumption); rfl; (conv => whnf)) | (refine ⟨⟨by omega, by omega⟩, ?_⟩; (conv => whnf))))
        refine call_of (t3 F7 hb7) ?_
        rintro v F8 ⟨rfl, hb8, hkq⟩
        have hB8 := hkq _ _ hB7 (fun e => hbx (Option.some.inj e))
        have hM8 := hM7.keeps hne hkq hF0
        have hk8 := hk7.trans hkq
        ((conv => whnf); repeat (first | (apply load_at; (conv => lhs; whnf); (with_reducible assumption); rfl; (conv => whnf)) | (apply load_at; (conv => lhs; rw [add_plain, add_plain]); (with_reducible assumption); rfl; (conv => whnf)) | (apply loads_at; (conv => lhs; whnf); (with_reducible assumption); rfl; (conv => whnf)) | (refine ⟨⟨by omega, by omega⟩, ?_⟩; (conv => whnf))))
        refine store_step x 3 _ #[.int .i64 n1, .int .i64 n2, .int .i64 0, .int .i64 n3] rfl hB8 rfl rfl (.inl (Nat.le_refl 0)) (one_int _ _) ?_
        have hB9 := Heap.put_same F8 x (lineO n1 n2 0 n3)
        have hb9 := (Heap.put_other F8 (lineO n1 n2 0 n3) hbx).trans hb8
        have hM9 := hM8.put h0x hS (lineO n1 n2 0 n3)
        have hk9 := hkput F8 (lineO n1 n2 0 n3) hk8
        generalize F8.put x _ = F9 at hB9 hb9 hM9 hk9 ⊢
        ((conv => whnf); repeat (first | (apply load_at; (conv => lhs; whnf); (with_reducible assumption); rfl; (conv => whnf)) | (apply load_at; (conv => lhs; rw [add_plain, add_plain]); (with_reducible assumption); rfl; (conv => whnf)) | (apply loads_at; (conv => lhs; whnf); (with_reducible assumption); rfl; (conv => whnf)) | (refine ⟨⟨by omega, by omega⟩, ?_⟩; (conv => whnf))))
        refine new_step (lineO n1 n2 0 n3) rfl fun z h0_z => ?_
        have hE_z := Ext.new h0_z (lineO n1 n2 0 n3)
        have hB_z := Heap.put_same F9 z (lineO n1 n2 0 n3)
        generalize F9.put z _ = F10 at hE_z hB_z ⊢
        have hM10 := hM9.mono hE_z
        have hb10 := hE_z _ _ hb9
        have hk10 := hk9.trans (hE_z.keeps (some b))
        ((conv => whnf); repeat (first | (apply load_at; (conv => lhs; whnf); (with_reducible assumption); rfl; (conv => whnf)) | (apply load_at; (conv => lhs; rw [add_plain, add_plain]); (with_reducible assumption); rfl; (conv => whnf)) | (apply loads_at; (conv => lhs; whnf); (with_reducible assumption); rfl; (conv => whnf)) | (refine ⟨⟨by omega, by omega⟩, ?_⟩; (conv => whnf))))
        refine append_mine tab_ok rfl rfl rfl rfl rfl ⟨_, rfl, fun k h => by cases h⟩ ⟨_, rfl, rfl⟩ (by decide) hM10 (m := 1) (ys := lineV ⟨n1, n2, 0, n3⟩) (y := .slice (some ⟨z, 0, none⟩) 1 1) ⟨rfl, .inl ⟨_, _, rfl, row_blk hB_z⟩⟩ (one_line _) (by show 2 * (done.length + 1) * 32 ≤ _; omega) fun S11 F11 hM11 hk11 => ?_
        ((conv => whnf); repeat (first | (apply load_at; (conv => lhs; whnf); (with_reducible assumption); rfl; (conv => whnf)) | (apply load_at; (conv => lhs; rw [add_plain, add_plain]); (with_reducible assumption); rfl; (conv => whnf)) | (apply loads_at; (conv => lhs; whnf); (with_reducible assumption); rfl; (conv => whnf)) | (refine ⟨⟨by omega, by omega⟩, ?_⟩; (conv => whnf))))
        refine ⟨m, by omega, S11, r3, done ++ [⟨n1, n2, 0, n3⟩], rfl, by omega, by rw [List.length_append, List.length_singleton]; omega, l3, ?_, hk11 _ _ hb10 hne, ?_, ?_⟩
        · rw [hrs, List.append_assoc]
          rfl
        · rw [linesV_app, List.length_append, List.length_singleton]
          exact hM11
        · intro c u hc hcb
          refine hk11 _ _ (hk10 c u hc hcb) fun e => ?_
          have hcb' : c ≠ b := fun e => hcb (by rw [e])
          have h1 := hM.fresh c e
          rw [lessL_at (by rw [List.mem_singleton]; exact hcb'), hc] at h1
          cases h1
      | false =>
        have hls : lineS false r0 = (⟨0, 0, n1, n2⟩, r2) := by
          unfold lineS
          rw [if_neg (by decide), ← hq1]
          dsimp only
          rw [← hq2]
        rw [hls] at hrs hlm
        have hlm : mu r2 < mu r0 := hlm
        ((conv => whnf); repeat (first | (apply load_at; (conv => lhs; whnf); (with_reducible assumption); rfl; (conv => whnf)) | (apply load_at; (conv => lhs; rw [add_plain, add_plain]); (with_reducible assumption); rfl; (conv => whnf)) | (apply loads_at; (conv => lhs; whnf); (with_reducible assumption); rfl; (conv => whnf)) | (refine ⟨⟨by omega, by omega⟩, ?_⟩; (conv => whnf))))
        refine call_of t1 ?_
        rintro v F4 ⟨rfl, hb4, hkq⟩
        have hB4 := hkq _ _ hB_x (fun e => hbx (Option.some.inj e))
        have hM4 := hM3.keeps hne hkq hF0
        have hk4 := hk3.trans hkq
        ((conv => whnf); repeat (first | (apply load_at; (conv => lhs; whnf); (with_reducible assumption); rfl; (conv => whnf)) | (apply load_at; (conv => lhs; rw [add_plain, add_plain]); (with_reducible assumption); rfl; (conv => whnf)) | (apply loads_at; (conv => lhs; whnf); (with_reducible assumption); rfl; (conv => whnf)) | (refine ⟨⟨by omega, by omega⟩, ?_⟩; (conv => whnf))))
        refine store_step x 2 _ #[.int .i64 0, .int .i64 0, .int .i64 n1, .int .i64 0] rfl hB4 rfl rfl (.inl (Nat.le_refl 0)) (one_int _ _) ?_
        have hB7 := Heap.put_same F4 x (lineO 0 0 n1 0)
        have hb7 := (Heap.put_other F4 (lineO 0 0 n1 0) hbx).trans hb4
        have hM7 := hM4.put h0x hS (lineO 0 0 n1 0)
        have hk7 := hkput F4 (lineO 0 0 n1 0) hk4
        generalize F4.put x _ = F7 at hB7 hb7 hM7 hk7 ⊢
        ((conv => whnf); repeat (first | (apply load_at; (conv => lhs; whnf); (with_reducible assumption); rfl; (conv => whnf)) | (apply load_at; (conv => lhs; rw [add_plain, add_plain]); (with_reducible assumption); rfl; (conv => whnf)) | (apply loads_at; (conv => lhs; whnf); (with_reducible assumption); rfl; (conv => whnf)) | (refine ⟨⟨by omega, by omega⟩, ?_⟩; (conv => whnf))))
        refine call_of (t2 F7 hb7) ?_
        rintro v F8 ⟨rfl, hb8, hkq⟩
        have hB8 := hkq _ _ hB7 (fun e => hbx (Option.some.inj e))
        have hM8 := hM7.keeps hne hkq hF0
        have hk8 := hk7.trans hkq
        ((conv => whnf); repeat (first | (apply load_at; (conv => lhs; whnf); (with_reducible assumption); rfl; (conv => whnf)) | (apply load_at; (conv => lhs; rw [add_plain, add_plain]); (with_reducible assumption); rfl; (conv => whnf)) | (apply loads_at; (conv => lhs; whnf); (with_reducible assumption); rfl; (conv => whnf)) | (refine ⟨⟨by omega, by omega⟩, ?_⟩; (conv => whnf))))
        refine store_step x 3 _ #[.int .i64 0, .int .i64 0, .int .i64 n1, .int .i64 n2] rfl hB8 rfl rfl (.inl (Nat.le_refl 0)) (one_int _ _) ?_
        have hB9 := Heap.put_same F8 x (lineO 0 0 n1 n2)
        have hb9 := (Heap.put_other F8 (lineO 0 0 n1 n2) hbx).trans hb8
        have hM9 := hM8.put h0x hS (lineO 0 0 n1 n2)
        have hk9 := hkput F8 (lineO 0 0 n1 n2) hk8
        generalize F8.put x _ = F9 at hB9 hb9 hM9 hk9 ⊢
        ((conv => whnf); repeat (first | (apply load_at; (conv => lhs; whnf); (with_reducible assumption); rfl; (conv => whnf)) | (apply load_at; (conv => lhs; rw [add_plain, add_plain]); (with_reducible assumption); rfl; (conv => whnf)) | (apply loads_at; (conv => lhs; whnf); (with_reducible assumption); rfl; (conv => whnf)) | (refine ⟨⟨by omega, by omega⟩, ?_⟩; (conv => whnf))))
        refine new_step (lineO 0 0 n1 n2) rfl fun z h0_z => ?_
        have hE_z := Ext.new h0_z (lineO 0 0 n1 n2)
        have hB_z := Heap.put_same F9 z (lineO 0 0 n1 n2)
        generalize F9.put z _ = F10 at hE_z hB_z ⊢
        have hM10 := hM9.mono hE_z
        have hb10 := hE_z _ _ hb9
        have hk10 := hk9.trans (hE_z.keeps (some b))
        ((conv => whnf); repeat (first | (apply load_at; (conv => lhs; whnf); (with_reducible assumption); rfl; (conv => whnf)) | (apply load_at; (conv => lhs; rw [add_plain, add_plain]); (with_reducible assumption); rfl; (conv => whnf)) | (apply loads_at; (conv => lhs; whnf); (with_reducible assumption); rfl; (conv => whnf)) | (refine ⟨⟨by omega, by omega⟩, ?_⟩; (conv => whnf))))
        refine append_mine tab_ok rfl rfl rfl rfl rfl ⟨_, rfl, fun k h => by cases h⟩ ⟨_, rfl, rfl⟩ (by decide) hM10 (m := 1) (ys := lineV ⟨0, 0, n1, n2⟩) (y := .slice (some ⟨z, 0, none⟩) 1 1) ⟨rfl, .inl ⟨_, _, rfl, row_blk hB_z⟩⟩ (one_line _) (by show 2 * (done.length + 1) * 32 ≤ _; omega) fun S11 F11 hM11 hk11 => ?_
        ((conv => whnf); repeat (first | (apply load_at; (conv => lhs; whnf); (with_reducible assumption); rfl; (conv => whnf)) | (apply load_at; (conv => lhs; rw [add_plain, add_plain]); (with_reducible assumption); rfl; (conv => whnf)) | (apply loads_at; (conv => lhs; whnf); (with_reducible assumption); rfl; (conv => whnf)) | (refine ⟨⟨by omega, by omega⟩, ?_⟩; (conv => whnf))))
        refine ⟨m, by omega, S11, r2, done ++ [⟨0, 0, n1, n2⟩], rfl, by omega, by rw [List.length_append, List.length_singleton]; omega, l2, ?_, hk11 _ _ hb10 hne, ?_, ?_⟩
        · rw [hrs, List.append_assoc]
          rfl
        · rw [linesV_app, List.length_append, List.length_singleton]
          exact hM11
        · intro c u hc hcb
          refine hk11 _ _ (hk10 c u hc hcb) fun e => ?_
          have hcb' : c ≠ b := fun e => hcb (by rw [e])
          have h1 := hM.fresh c e
          rw [lessL_at (by rw [List.mem_singleton]; exact hcb'), hc] at h1
          cases h1
end Go.Proofs.Ytbgijjoemnfnmaa.Al
/- (*text.reader).field. -/
namespace Go.Proofs.Ytbgijjoemnfnmaa.Al
open Go Go.Al Go.Proofs Go.RowKit
set_option maxHeartbeats 8000000
set_option maxRecDepth 100000
set_option linter.unusedVariables false
set_option linter.unusedSimpArgs false
def yesL : List UInt8 := [97, 98, 115, 111, 108, 117, 116, 101]
def noL : List UInt8 := [97, 100, 118, 105, 115, 111, 114, 121]
def setF (c : CD) (f : Nat) (n : Int) : CD := match f with
  | 0 => { c with y := n }
  | 1 => { c with x := n }
  | 2 => { c with f := n }
  | 3 => { c with o := n }
  | 4 => { c with n := n }
  | 5 => { c with p := n }
  | 6 => { c with d := n }
  | 7 => { c with l := n }
  | _ => { c with a := n }
def fieldS (f : Nat) (c : CD) (r : RD) : CD × RD :=
  if f = 10 then ({ c with nm := r.rest }, ⟨[], false, r.bad || !r.more⟩)
  else if f = 9 then ({ c with ab := (wordS r).1 == yesL }, ⟨(wordS r).2.rest, (wordS r).2.more, (wordS r).2.bad || (!((wordS r).1 == yesL) && !((wordS r).1 == noL))⟩)
  else if f = 11 then ({ c with ls := (linesS true (mu r) r).1 }, (linesS true (mu r) r).2)
  else if f = 12 then ({ c with ls := (linesS false (mu r) r).1 }, (linesS false (mu r) r).2)
  else (setF c f (numS r).1, (numS r).2)
abbrev cmdOf (c : CD) (A : Option Addr) (cc : Nat) : Obj := cmdO c.k c.y c.x c.f c.o c.n c.p c.d c.l c.a c.ab ⟨c.nm.toArray⟩ (.slice A c.ls.length cc)
/-- A command in a block. -/
def CmdAt (F : Heap) (ms : List Nat) (p : Nat) (c : CD) : Prop := ∃ A cc, F p = some (cmdOf c A cc) ∧ RowAt F A (linesV c.ls) ∧ ∀ a, A = some a → a.block ∉ ms
def Keep2 (F F' : Heap) (p b : Nat) : Prop := ∀ c o, F c = some o → c ≠ p → c ≠ b → F' c = some o
theorem Keep2.of {F F' : Heap} {p b : Nat} (h : Keeps F F' (some b)) : Keep2 F F' p b := fun c o hc _ h2 => h c o hc (fun e => h2 (Option.some.inj e).symm)
theorem Keep2.trans {F G H : Heap} {p b : Nat} (h : Keep2 F G p b) (k : Keep2 G H p b) : Keep2 F H p b := fun c o hc h1 h2 => k c o (h c o hc h1 h2) h1 h2
theorem Keep2.put {F : Heap} {p b : Nat} (o : Obj) : Keep2 F (F.put p o) p b := fun c u hc h1 _ => by rw [Heap.put_other F o h1]; exact hc
theorem Keep2.put2 {F : Heap} {p b : Nat} (o : Obj) : Keep2 F (F.put b o) p b := fun c u hc _ h2 => by rw [Heap.put_other F o h2]; exact hc
theorem Keep2.row {F F' : Heap} {p b : Nat} {ms : List Nat} {A : Option Addr} {vs : List Value} (h : Keep2 F F' p b) (hms : p ∈ ms ∧ b ∈ ms) (hr : RowAt F A vs) (hA : ∀ a, A = some a → a.block ∉ ms) : RowAt F' A vs := fun j v hj => by
  obtain ⟨a, rfl, hc⟩ := hr j v hj
  refine ⟨a, rfl, ?_⟩
  obtain ⟨cs, e, fz, h1, h2, h3⟩ := cell_block hc
  have hn := hA a rfl
  rw [(add_parts a j).1] at h1
  have h4 := h _ _ h1 (fun e => hn (by rw [e]; exact hms.1)) (fun e => hn (by rw [e]; exact hms.2))
  unfold Heap.cell?
  rw [(add_parts a j).1, h4]
  simp only [h2, Option.isSome_none, Bool.false_eq_true, if_false]
  exact h3
theorem field9 (c : CD) (r : RD) (p b : Nat) (hpb : p ≠ b) (ms : List Nat) (hms : p ∈ ms ∧ b ∈ ms) (F : Heap) (hmF : ∀ m ∈ ms, F m ≠ none) (hp : CmdAt F ms p c) (hb : F b = some (rdR r)) (hl : r.rest.length ≤ 1000000) : FnK Try.prog 19 #[.pointer (some ⟨b, 0, none⟩), .pointer (some ⟨p, 0, none⟩), .int .i64 9] F (fun v F' => CmdAt F' ms p (fieldS 9 c r).1 ∧ F' b = some (rdR (fieldS 9 c r).2) ∧ Keep2 F F' p b) := by
  obtain ⟨A, cc, hp0, hrow, hA⟩ := hp
  have hw := word r b F hb hl
  have hfs : fieldS 9 c r = ({ c with ab := (wordS r).1 == yesL }, ⟨(wordS r).2.rest, (wordS r).2.more, (wordS r).2.bad || (!((wordS r).1 == yesL) && !((wordS r).1 == noL))⟩) := rfl
  rw [hfs]
  clear hfs
  generalize wordS r = q at hw ⊢
  obtain ⟨w, rest1, more1, bad1⟩ := q
  obtain ⟨k, y, x, f, o, n, pp, d, l, a, ab, nm, ls⟩ := c
  replace hw : FnK Try.prog 17 #[.pointer (some ⟨b, 0, none⟩)] F (fun v F' => v = str w ∧ F' = F.put b (rdO rest1 more1 bad1)) := hw
  have hy := str_beq w yesL
  have hn := str_beq w noL
  have hp1 : (F.put b (rdO rest1 more1 bad1)) p = some (cmdO k y x f o n pp d l a ab ⟨nm.toArray⟩ (.slice A ls.length cc)) := (Heap.put_other F _ hpb).trans hp0
  have hb1 := Heap.put_same F b (rdO rest1 more1 bad1)
  have hk1 : Keep2 F (F.put b (rdO rest1 more1 bad1)) p b := Keep2.put2 _
  have fin : ∀ (G : Heap) (bd : Bool), bd = (bad1 || (!(w == yesL) && !(w == noL))) → Keep2 F G p b → G p = some (cmdO k y x f o n pp d l a (w == yesL) ⟨nm.toArray⟩ (.slice A ls.length cc)) → CmdAt (G.put b (rdO rest1 more1 bd)) ms p ⟨k, y, x, f, o, n, pp, d, l, a, w == yesL, nm, ls⟩ ∧ (G.put b (rdO rest1 more1 bd)) b = some (rdR ⟨rest1, more1, bad1 || (!(w == yesL) && !(w == noL))⟩) ∧ Keep2 F (G.put b (rdO rest1 more1 bd)) p b := by
    intro G bd hbd hG hGp
    have hG' := hG.trans (Keep2.put2 (rdO rest1 more1 bd))
    refine ⟨⟨A, cc, (Heap.put_other G _ hpb).trans hGp, hG'.row hms hrow hA, hA⟩, ?_, hG'⟩
    rw [← hbd]
    exact Heap.put_same _ _ _
  (refine fn_walk tab_ok Try.func19 rfl rfl rfl rfl ?_; (conv => whnf))
  refine call_of hw ?_
  rintro v F1 ⟨rfl, rfl⟩
  generalize F.put b _ = F1 at hp1 hb1 hk1
  ((conv => whnf); repeat (first | (apply load_at; (conv => lhs; whnf); (with_reducible assumption); rfl; (conv => whnf)) | (apply load_at; (conv => lhs; rw [add_plain, add_plain]); (with_reducible assumption); rfl; (conv => whnf)) | (apply loads_at; (conv => lhs; whnf); (with_reducible assumption); rfl; (conv => whnf)) | (refine ⟨⟨by omega, by omega⟩, ?_⟩; (conv => whnf))))
  refine store_step p 10 _ (cmdC k y x f o n pp d l a (w == yesL) ⟨nm.toArray⟩ (.slice A ls.length cc)) rfl hp1 ?_ rfl (.inl (Nat.le_refl 0)) (one_bool _) ?_
  · have hx : (putL (cmdC k y x f o n pp d l a ab ⟨nm.toArray⟩ (.slice A ls.length cc)).toList 10 [Value.bool ((⟨w.toArray⟩ : ByteArray).toList == (⟨yesL.toArray⟩ : ByteArray).toList)]).toArray = cmdC k y x f o n pp d l a (w == yesL) ⟨nm.toArray⟩ (.slice A ls.length cc) := by
      rw [hy]
      rfl
    exact hx
  have hp2 := Heap.put_same F1 p (cmdO k y x f o n pp d l a (w == yesL) ⟨nm.toArray⟩ (.slice A ls.length cc))
  have hb2 := (Heap.put_other F1 (cmdO k y x f o n pp d l a (w == yesL) ⟨nm.toArray⟩ (.slice A ls.length cc)) (Ne.symm hpb)).trans hb1
  have hk2 : Keep2 F (F1.put p (cmdO k y x f o n pp d l a (w == yesL) ⟨nm.toArray⟩ (.slice A ls.length cc))) p b := hk1.trans (Keep2.put _)
  generalize F1.put p _ = F2 at hp2 hb2 hk2 ⊢
  cases bad1 with
  | true =>
    ((conv => whnf); repeat (first | (apply load_at; (conv => lhs; whnf); (with_reducible assumption); rfl; (conv => whnf)) | (apply load_at; (conv => lhs; rw [add_plain, add_plain]); (with_reducible assumption); rfl; (conv => whnf)) | (apply loads_at; (conv => lhs; whnf); (with_reducible assumption); rfl; (conv => whnf)) | (refine ⟨⟨by omega, by omega⟩, ?_⟩; (conv => whnf))))
    refine store_step b 2 _ #[str rest1, .bool more1, .bool true] rfl hb2 rfl rfl (.inl (Nat.le_refl 0)) (one_bool _) ?_
    ((conv => whnf); repeat (first | (apply load_at; (conv => lhs; whnf); (with_reducible assumption); rfl; (conv => whnf)) | (apply load_at; (conv => lhs; rw [add_plain, add_plain]); (with_reducible assumption); rfl; (conv => whnf)) | (apply loads_at; (conv => lhs; whnf); (with_reducible assumption); rfl; (conv => whnf)) | (refine ⟨⟨by omega, by omega⟩, ?_⟩; (conv => whnf))))
    exact fin F2 true rfl hk2 hp2
  | false =>
    ((conv => whnf); repeat (first | (apply load_at; (conv => lhs; whnf); (with_reducible assumption); rfl; (conv => whnf)) | (apply load_at; (conv => lhs; rw [add_plain, add_plain]); (with_reducible assumption); rfl; (conv => whnf)) | (apply loads_at; (conv => lhs; whnf); (with_reducible assumption); rfl; (conv => whnf)) | (refine ⟨⟨by omega, by omega⟩, ?_⟩; (conv => whnf))))
    refine cond_split (fun h => ?_) (fun h => ?_)
    · replace h : (w == yesL) = false := by
        have h : (!((⟨w.toArray⟩ : ByteArray).toList == (⟨yesL.toArray⟩ : ByteArray).toList)) = true := h
        rw [hy] at h
        simpa using h
      ((conv => whnf); repeat (first | (apply load_at; (conv => lhs; whnf); (with_reducible assumption); rfl; (conv => whnf)) | (apply load_at; (conv => lhs; rw [add_plain, add_plain]); (with_reducible assumption); rfl; (conv => whnf)) | (apply loads_at; (conv => lhs; whnf); (with_reducible assumption); rfl; (conv => whnf)) | (refine ⟨⟨by omega, by omega⟩, ?_⟩; (conv => whnf))))
      refine store_step b 2 _ #[str rest1, .bool more1, .bool (!(w == noL))] rfl hb2 ?_ rfl (.inl (Nat.le_refl 0)) (one_bool _) ?_
      · have hx : (putL [str rest1, .bool more1, .bool false] 2 [Value.bool (!((⟨w.toArray⟩ : ByteArray).toList == (⟨noL.toArray⟩ : ByteArray).toList))]).toArray = #[str rest1, .bool more1, .bool (!(w == noL))] := by
          rw [hn]
          rfl
        exact hx
      ((conv => whnf); repeat (first | (apply load_at; (conv => lhs; whnf); (with_reducible assumption); rfl; (conv => whnf)) | (apply load_at; (conv => lhs; rw [add_plain, add_plain]); (with_reducible assumption); rfl; (conv => whnf)) | (apply loads_at; (conv => lhs; whnf); (with_reducible assumption); rfl; (conv => whnf)) | (refine ⟨⟨by omega, by omega⟩, ?_⟩; (conv => whnf))))
      exact fin F2 _ (by rw [h]; rfl) hk2 hp2
    · replace h : (w == yesL) = true := by
        have h : (!((⟨w.toArray⟩ : ByteArray).toList == (⟨yesL.toArray⟩ : ByteArray).toList)) = false := h
        rw [hy] at h
        simpa using h
      ((conv => whnf); repeat (first | (apply load_at; (conv => lhs; whnf); (with_reducible assumption); rfl; (conv => whnf)) | (apply load_at; (conv => lhs; rw [add_plain, add_plain]); (with_reducible assumption); rfl; (conv => whnf)) | (apply loads_at; (conv => lhs; whnf); (with_reducible assumption); rfl; (conv => whnf)) | (refine ⟨⟨by omega, by omega⟩, ?_⟩; (conv => whnf))))
      refine store_step b 2 _ #[str rest1, .bool more1, .bool false] rfl hb2 rfl rfl (.inl (Nat.le_refl 0)) (one_bool _) ?_
      ((conv => whnf); repeat (first | (apply load_at; (conv => lhs; whnf); (with_reducible assumption); rfl; (conv => whnf)) | (apply load_at; (conv => lhs; rw [add_plain, add_plain]); (with_reducible assumption); rfl; (conv => whnf)) | (apply loads_at; (conv => lhs; whnf); (with_reducible assumption); rfl; (conv => whnf)) | (refine ⟨⟨by omega, by omega⟩, ?_⟩; (conv => whnf))))
      exact fin F2 _ (by rw [h]; rfl) hk2 hp2
theorem field10 (c : CD) (r : RD) (p b : Nat) (hpb : p ≠ b) (ms : List Nat) (hms : p ∈ ms ∧ b ∈ ms) (F : Heap) (hmF : ∀ m ∈ ms, F m ≠ none) (hp : CmdAt F ms p c) (hb : F b = some (rdR r)) : FnK Try.prog 19 #[.pointer (some ⟨b, 0, none⟩), .pointer (some ⟨p, 0, none⟩), .int .i64 10] F (fun v F' => CmdAt F' ms p (fieldS 10 c r).1 ∧ F' b = some (rdR (fieldS 10 c r).2) ∧ Keep2 F F' p b) := by
  obtain ⟨A, cc, hp0, hrow, hA⟩ := hp
  obtain ⟨rest, more, bad⟩ := r
  obtain ⟨k, y, x, f, o, n, pp, d, l, a, ab, nm, ls⟩ := c
  have hfs : fieldS 10 ⟨k, y, x, f, o, n, pp, d, l, a, ab, nm, ls⟩ ⟨rest, more, bad⟩ = (⟨k, y, x, f, o, n, pp, d, l, a, ab, rest, ls⟩, ⟨[], false, bad || !more⟩) := rfl
  rw [hfs]
  clear hfs
  have fin : ∀ (G : Heap) (bd : Bool), bd = (bad || !more) → F p = some (cmdO k y x f o n pp d l a ab ⟨nm.toArray⟩ (.slice A ls.length cc)) → G = (((F.put b (rdO rest more bd)).put p (cmdO k y x f o n pp d l a ab ⟨rest.toArray⟩ (.slice A ls.length cc))).put b (rdO [] more bd)).put b (rdO [] false bd) → CmdAt G ms p ⟨k, y, x, f, o, n, pp, d, l, a, ab, rest, ls⟩ ∧ G b = some (rdR ⟨[], false, bad || !more⟩) ∧ Keep2 F G p b := by
    rintro G bd hbd _ rfl
    have hG' := (((Keep2.put2 (F := F) (p := p) (b := b) (rdO rest more bd)).trans (Keep2.put (cmdO k y x f o n pp d l a ab ⟨rest.toArray⟩ (.slice A ls.length cc)))).trans (Keep2.put2 (rdO [] more bd))).trans (Keep2.put2 (rdO [] false bd))
    refine ⟨⟨A, cc, ?_, hG'.row hms hrow hA, hA⟩, ?_, hG'⟩
    · exact (Heap.put_other _ _ hpb).trans ((Heap.put_other _ _ hpb).trans (Heap.put_same _ _ _))
    · rw [← hbd]
      exact Heap.put_same _ _ _
  replace hb : F b = some (rdO rest more bad) := hb
  replace hp0 : F p = some (cmdO k y x f o n pp d l a ab ⟨nm.toArray⟩ (.slice A ls.length cc)) := hp0
  have rest1 : ∀ (bd : Bool), bd = (bad || !more) → True := fun _ _ => trivial
  cases bad with
  | true =>
    (refine fn_walk tab_ok Try.func19 rfl rfl rfl rfl ?_; (conv => whnf))
    ((conv => whnf); repeat (first | (apply load_at; (conv => lhs; whnf); (with_reducible assumption); rfl; (conv => whnf)) | (apply load_at; (conv => lhs; rw [add_plain, add_plain]); (with_reducible assumption); rfl; (conv => whnf)) | (apply loads_at; (conv => lhs; whnf); (with_reducible assumption); rfl; (conv => whnf)) | (refine ⟨⟨by omega, by omega⟩, ?_⟩; (conv => whnf))))
    refine store_step b 2 _ #[str rest, .bool more, .bool true] rfl hb rfl rfl (.inl (Nat.le_refl 0)) (one_bool _) ?_
    have hb1 := Heap.put_same F b (rdO rest more true)
    have hp1 := (Heap.put_other F (rdO rest more true) hpb).trans hp0
    ((conv => whnf); repeat (first | (apply load_at; (conv => lhs; whnf); (with_reducible assumption); rfl; (conv => whnf)) | (apply load_at; (conv => lhs; rw [add_plain, add_plain]); (with_reducible assumption); rfl; (conv => whnf)) | (apply loads_at; (conv => lhs; whnf); (with_reducible assumption); rfl; (conv => whnf)) | (refine ⟨⟨by omega, by omega⟩, ?_⟩; (conv => whnf))))
    refine store_step p 11 _ (cmdC k y x f o n pp d l a ab ⟨rest.toArray⟩ (.slice A ls.length cc)) rfl hp1 rfl rfl (.inl (Nat.le_refl 0)) (one_str _) ?_
    have hb2 := (Heap.put_other (F.put b (rdO rest more true)) (cmdO k y x f o n pp d l a ab ⟨rest.toArray⟩ (.slice A ls.length cc)) (Ne.symm hpb)).trans hb1
    ((conv => whnf); repeat (first | (apply load_at; (conv => lhs; whnf); (with_reducible assumption); rfl; (conv => whnf)) | (apply load_at; (conv => lhs; rw [add_plain, add_plain]); (with_reducible assumption); rfl; (conv => whnf)) | (apply loads_at; (conv => lhs; whnf); (with_reducible assumption); rfl; (conv => whnf)) | (refine ⟨⟨by omega, by omega⟩, ?_⟩; (conv => whnf))))
    refine store_step b 0 _ #[str [], .bool more, .bool true] rfl hb2 rfl rfl (.inl (Nat.le_refl 0)) (one_str _) ?_
    have hb3 := Heap.put_same ((F.put b (rdO rest more true)).put p (cmdO k y x f o n pp d l a ab ⟨rest.toArray⟩ (.slice A ls.length cc))) b (rdO [] more true)
    ((conv => whnf); repeat (first | (apply load_at; (conv => lhs; whnf); (with_reducible assumption); rfl; (conv => whnf)) | (apply load_at; (conv => lhs; rw [add_plain, add_plain]); (with_reducible assumption); rfl; (conv => whnf)) | (apply loads_at; (conv => lhs; whnf); (with_reducible assumption); rfl; (conv => whnf)) | (refine ⟨⟨by omega, by omega⟩, ?_⟩; (conv => whnf))))
    refine store_step b 1 _ #[str [], .bool false, .bool true] rfl hb3 rfl rfl (.inl (Nat.le_refl 0)) (one_bool _) ?_
    ((conv => whnf); repeat (first | (apply load_at; (conv => lhs; whnf); (with_reducible assumption); rfl; (conv => whnf)) | (apply load_at; (conv => lhs; rw [add_plain, add_plain]); (with_reducible assumption); rfl; (conv => whnf)) | (apply loads_at; (conv => lhs; whnf); (with_reducible assumption); rfl; (conv => whnf)) | (refine ⟨⟨by omega, by omega⟩, ?_⟩; (conv => whnf))))
    exact fin _ true rfl hp0 rfl
  | false =>
    (refine fn_walk tab_ok Try.func19 rfl rfl rfl rfl ?_; (conv => whnf))
    ((conv => whnf); repeat (first | (apply load_at; (conv => lhs; whnf); (with_reducible assumption); rfl; (conv => whnf)) | (apply load_at; (conv => lhs; rw [add_plain, add_plain]); (with_reducible assumption); rfl; (conv => whnf)) | (apply loads_at; (conv => lhs; whnf); (with_reducible assumption); rfl; (conv => whnf)) | (refine ⟨⟨by omega, by omega⟩, ?_⟩; (conv => whnf))))
    refine store_step b 2 _ #[str rest, .bool more, .bool (!more)] rfl hb rfl rfl (.inl (Nat.le_refl 0)) (one_bool _) ?_
    have hb1 := Heap.put_same F b (rdO rest more (!more))
    have hp1 := (Heap.put_other F (rdO rest more (!more)) hpb).trans hp0
    ((conv => whnf); repeat (first | (apply load_at; (conv => lhs; whnf); (with_reducible assumption); rfl; (conv => whnf)) | (apply load_at; (conv => lhs; rw [add_plain, add_plain]); (with_reducible assumption); rfl; (conv => whnf)) | (apply loads_at; (conv => lhs; whnf); (with_reducible assumption); rfl; (conv => whnf)) | (refine ⟨⟨by omega, by omega⟩, ?_⟩; (conv => whnf))))
    refine store_step p 11 _ (cmdC k y x f o n pp d l a ab ⟨rest.toArray⟩ (.slice A ls.length cc)) rfl hp1 rfl rfl (.inl (Nat.le_refl 0)) (one_str _) ?_
    have hb2 := (Heap.put_other (F.put b (rdO rest more (!more))) (cmdO k y x f o n pp d l a ab ⟨rest.toArray⟩ (.slice A ls.length cc)) (Ne.symm hpb)).trans hb1
    ((conv => whnf); repeat (first | (apply load_at; (conv => lhs; whnf); (with_reducible assumption); rfl; (conv => whnf)) | (apply load_at; (conv => lhs; rw [add_plain, add_plain]); (with_reducible assumption); rfl; (conv => whnf)) | (apply loads_at; (conv => lhs; whnf); (with_reducible assumption); rfl; (conv => whnf)) | (refine ⟨⟨by omega, by omega⟩, ?_⟩; (conv => whnf))))
    refine store_step b 0 _ #[str [], .bool more, .bool (!more)] rfl hb2 rfl rfl (.inl (Nat.le_refl 0)) (one_str _) ?_
    have hb3 := Heap.put_same ((F.put b (rdO rest more (!more))).put p (cmdO k y x f o n pp d l a ab ⟨rest.toArray⟩ (.slice A ls.length cc))) b (rdO [] more (!more))
    ((conv => whnf); repeat (first | (apply load_at; (conv => lhs; whnf); (with_reducible assumption); rfl; (conv => whnf)) | (apply load_at; (conv => lhs; rw [add_plain, add_plain]); (with_reducible assumption); rfl; (conv => whnf)) | (apply loads_at; (conv => lhs; whnf); (with_reducible assumption); rfl; (conv => whnf)) | (refine ⟨⟨by omega, by omega⟩, ?_⟩; (conv => whnf))))
    refine store_step b 1 _ #[str [], .bool false, .bool (!more)] rfl hb3 rfl rfl (.inl (Nat.le_refl 0)) (one_bool _) ?_
    ((conv => whnf); repeat (first | (apply load_at; (conv => lhs; whnf); (with_reducible assumption); rfl; (conv => whnf)) | (apply load_at; (conv => lhs; rw [add_plain, add_plain]); (with_reducible assumption); rfl; (conv => whnf)) | (apply loads_at; (conv => lhs; whnf); (with_reducible assumption); rfl; (conv => whnf)) | (refine ⟨⟨by omega, by omega⟩, ?_⟩; (conv => whnf))))
    exact fin _ (!more) rfl hp0 rfl
theorem fieldL (thr : Bool) (c : CD) (r : RD) (p b : Nat) (hpb : p ≠ b) (ms : List Nat) (hms : p ∈ ms ∧ b ∈ ms) (F : Heap) (hmF : ∀ m ∈ ms, F m ≠ none) (hp : CmdAt F ms p c) (hb : F b = some (rdR r)) (hl : r.rest.length ≤ 1000000) : FnK Try.prog 19 #[.pointer (some ⟨b, 0, none⟩), .pointer (some ⟨p, 0, none⟩), .int .i64 (thrF thr : Int)] F (fun v F' => CmdAt F' ms p (fieldS (thrF thr) c r).1 ∧ F' b = some (rdR (fieldS (thrF thr) c r).2) ∧ Keep2 F F' p b) := by
  obtain ⟨A, cc, hp0, hrow, hA⟩ := hp
  have hL := linesR thr r b F hb hl
  have hfs : fieldS (thrF thr) c r = ({ c with ls := (linesS thr (mu r) r).1 }, (linesS thr (mu r) r).2) := by cases thr <;> rfl
  rw [hfs]
  clear hfs
  generalize linesS thr (mu r) r = q at hL ⊢
  obtain ⟨ls', r'⟩ := q
  obtain ⟨k, y, x, f, o, n, pp, d, l, a, ab, nm, ls⟩ := c
  replace hp0 : F p = some (cmdO k y x f o n pp d l a ab ⟨nm.toArray⟩ (.slice A ls.length cc)) := hp0
  have fin : ∀ (G G' : Heap) (A' : Option Addr) (cc' : Nat), RowAt G A' (linesV ls') → (∀ a, A' = some a → F a.block = none) → G b = some (rdR r') → Keeps F G (some b) → G' = G.put p (cmdO k y x f o n pp d l a ab ⟨nm.toArray⟩ (.slice A' ls'.length cc')) → CmdAt G' ms p ⟨k, y, x, f, o, n, pp, d, l, a, ab, nm, ls'⟩ ∧ G' b = some (rdR r') ∧ Keep2 F G' p b := by
    rintro G G' A' cc' hr hn hgb hk rfl
    have hA' : ∀ a, A' = some a → a.block ∉ ms := fun a ha hm => by
      exact hmF _ hm (hn a ha)
    refine ⟨⟨A', cc', Heap.put_same _ _ _, (Keep2.put (F := G) (p := p) (b := b) _).row hms hr hA', hA'⟩, (Heap.put_other _ _ (Ne.symm hpb)).trans hgb, (Keep2.of hk).trans (Keep2.put _)⟩
  cases thr with
  | true =>
    (refine fn_walk tab_ok Try.func19 rfl rfl rfl rfl ?_; (conv => whnf))
    refine call_of hL ?_
    rintro v F1 ⟨A', cc', rfl, hr, hn, hgb, hk⟩
    have hp1 := hk _ _ hp0 (fun e => hpb (Option.some.inj e).symm)
    ((conv => whnf); repeat (first | (apply load_at; (conv => lhs; whnf); (with_reducible assumption); rfl; (conv => whnf)) | (apply load_at; (conv => lhs; rw [add_plain, add_plain]); (with_reducible assumption); rfl; (conv => whnf)) | (apply loads_at; (conv => lhs; whnf); (with_reducible assumption); rfl; (conv => whnf)) | (refine ⟨⟨by omega, by omega⟩, ?_⟩; (conv => whnf))))
    refine store_step p 12 _ (cmdC k y x f o n pp d l a ab ⟨nm.toArray⟩ (.slice A' ls'.length cc')) rfl hp1 rfl rfl (.inl (Nat.le_refl 0)) (one_slice _ _ _) ?_
    ((conv => whnf); repeat (first | (apply load_at; (conv => lhs; whnf); (with_reducible assumption); rfl; (conv => whnf)) | (apply load_at; (conv => lhs; rw [add_plain, add_plain]); (with_reducible assumption); rfl; (conv => whnf)) | (apply loads_at; (conv => lhs; whnf); (with_reducible assumption); rfl; (conv => whnf)) | (refine ⟨⟨by omega, by omega⟩, ?_⟩; (conv => whnf))))
    exact fin F1 _ A' cc' hr hn hgb hk rfl
  | false =>
    (refine fn_walk tab_ok Try.func19 rfl rfl rfl rfl ?_; (conv => whnf))
    refine call_of hL ?_
    rintro v F1 ⟨A', cc', rfl, hr, hn, hgb, hk⟩
    have hp1 := hk _ _ hp0 (fun e => hpb (Option.some.inj e).symm)
    ((conv => whnf); repeat (first | (apply load_at; (conv => lhs; whnf); (with_reducible assumption); rfl; (conv => whnf)) | (apply load_at; (conv => lhs; rw [add_plain, add_plain]); (with_reducible assumption); rfl; (conv => whnf)) | (apply loads_at; (conv => lhs; whnf); (with_reducible assumption); rfl; (conv => whnf)) | (refine ⟨⟨by omega, by omega⟩, ?_⟩; (conv => whnf))))
    refine store_step p 12 _ (cmdC k y x f o n pp d l a ab ⟨nm.toArray⟩ (.slice A' ls'.length cc')) rfl hp1 rfl rfl (.inl (Nat.le_refl 0)) (one_slice _ _ _) ?_
    ((conv => whnf); repeat (first | (apply load_at; (conv => lhs; whnf); (with_reducible assumption); rfl; (conv => whnf)) | (apply load_at; (conv => lhs; rw [add_plain, add_plain]); (with_reducible assumption); rfl; (conv => whnf)) | (apply loads_at; (conv => lhs; whnf); (with_reducible assumption); rfl; (conv => whnf)) | (refine ⟨⟨by omega, by omega⟩, ?_⟩; (conv => whnf))))
    exact fin F1 _ A' cc' hr hn hgb hk rfl
end Go.Proofs.Ytbgijjoemnfnmaa.Al
/- (*text.reader).field of a number, and of any field. -/
namespace Go.Proofs.Ytbgijjoemnfnmaa.Al
open Go Go.Al Go.Proofs Go.RowKit
set_option maxHeartbeats 8000000
set_option maxRecDepth 100000
set_option linter.unusedVariables false
set_option linter.unusedSimpArgs false
theorem fieldNum (f : Nat) (hf : f ≤ 8) (c : CD) (r : RD) (p b : Nat) (hpb : p ≠ b) (ms : List Nat) (hms : p ∈ ms ∧ b ∈ ms) (F : Heap) (hmF : ∀ m ∈ ms, F m ≠ none) (hp : CmdAt F ms p c) (hb : F b = some (rdR r)) (hl : r.rest.length ≤ 1000000) : FnK Try.prog 19 #[.pointer (some ⟨b, 0, none⟩), .pointer (some ⟨p, 0, none⟩), .int .i64 (f : Int)] F (fun v F' => CmdAt F' ms p (fieldS f c r).1 ∧ F' b = some (rdR (fieldS f c r).2) ∧ Keep2 F F' p b) := by
  obtain ⟨A, cc, hp0, hrow, hA⟩ := hp
  have hN := numR r b F hb hl
  have hfs : fieldS f c r = (setF c f (numS r).1, (numS r).2) := by
    unfold fieldS
    rw [if_neg (by omega), if_neg (by omega), if_neg (by omega), if_neg (by omega)]
  rw [hfs]
  clear hfs
  generalize numS r = q at hN ⊢
  obtain ⟨z, r'⟩ := q
  obtain ⟨k, y, x, ff, o, n, pp, d, l, a, ab, nm, ls⟩ := c
  replace hp0 : F p = some (cmdO k y x ff o n pp d l a ab ⟨nm.toArray⟩ (.slice A ls.length cc)) := hp0
  replace hN : FnK Try.prog 31 #[.pointer (some ⟨b, 0, none⟩)] F (fun v F' => v = .int .i64 z ∧ F' b = some (rdR r') ∧ Keeps F F' (some b)) := hN
  have hpl := place f hf p F
  have fin : ∀ (G G' : Heap) (c' : CD), c'.ls = ls → G b = some (rdR r') → Keeps F G (some b) → G' = G.put p (cmdOf c' A cc) → CmdAt G' ms p c' ∧ G' b = some (rdR r') ∧ Keep2 F G' p b := by
    rintro G G' c' rfl hgb hk rfl
    have hk2 := (Keep2.of (p := p) hk).trans (Keep2.put (cmdOf c' A cc))
    exact ⟨⟨A, cc, Heap.put_same _ _ _, hk2.row hms hrow hA, hA⟩, (Heap.put_other _ _ (Ne.symm hpb)).trans hgb, hk2⟩
  rcases fieldN f hf with rfl | rfl | rfl | rfl | rfl | rfl | rfl | rfl | rfl
  · (refine fn_walk tab_ok Try.func19 rfl rfl rfl rfl ?_; (conv => whnf))
    refine call_of hpl ?_
    rintro v F0 ⟨rfl, rfl⟩
    ((conv => whnf); repeat (first | (apply load_at; (conv => lhs; whnf); (with_reducible assumption); rfl; (conv => whnf)) | (apply load_at; (conv => lhs; rw [add_plain, add_plain]); (with_reducible assumption); rfl; (conv => whnf)) | (apply loads_at; (conv => lhs; whnf); (with_reducible assumption); rfl; (conv => whnf)) | (refine ⟨⟨by omega, by omega⟩, ?_⟩; (conv => whnf))))
    refine call_of hN ?_
    rintro v F1 ⟨rfl, hgb, hk⟩
    have hp1 := hk _ _ hp0 (fun e => hpb (Option.some.inj e).symm)
    ((conv => whnf); repeat (first | (apply load_at; (conv => lhs; whnf); (with_reducible assumption); rfl; (conv => whnf)) | (apply load_at; (conv => lhs; rw [add_plain, add_plain]); (with_reducible assumption); rfl; (conv => whnf)) | (apply loads_at; (conv => lhs; whnf); (with_reducible assumption); rfl; (conv => whnf)) | (refine ⟨⟨by omega, by omega⟩, ?_⟩; (conv => whnf))))
    refine store_step p 1 _ (cmdC k z x ff o n pp d l a ab ⟨nm.toArray⟩ (.slice A ls.length cc)) rfl hp1 rfl rfl (.inl (Nat.le_refl 0)) (one_int _ _) ?_
    ((conv => whnf); repeat (first | (apply load_at; (conv => lhs; whnf); (with_reducible assumption); rfl; (conv => whnf)) | (apply load_at; (conv => lhs; rw [add_plain, add_plain]); (with_reducible assumption); rfl; (conv => whnf)) | (apply loads_at; (conv => lhs; whnf); (with_reducible assumption); rfl; (conv => whnf)) | (refine ⟨⟨by omega, by omega⟩, ?_⟩; (conv => whnf))))
    exact fin F1 _ ⟨k, z, x, ff, o, n, pp, d, l, a, ab, nm, ls⟩ rfl hgb hk rfl
  · (refine fn_walk tab_ok Try.func19 rfl rfl rfl rfl ?_; (conv => whnf))
    refine call_of hpl ?_
    rintro v F0 ⟨rfl, rfl⟩
    ((conv => whnf); repeat (first | (apply load_at; (conv => lhs; whnf); (with_reducible assumption); rfl; (conv => whnf)) | (apply load_at; (conv => lhs; rw [add_plain, add_plain]); (with_reducible assumption); rfl; (conv => whnf)) | (apply loads_at; (conv => lhs; whnf); (with_reducible assumption); rfl; (conv => whnf)) | (refine ⟨⟨by omega, by omega⟩, ?_⟩; (conv => whnf))))
    refine call_of hN ?_
    rintro v F1 ⟨rfl, hgb, hk⟩
    have hp1 := hk _ _ hp0 (fun e => hpb (Option.some.inj e).symm)
    ((conv => whnf); repeat (first | (apply load_at; (conv => lhs; whnf); (with_reducible assumption); rfl; (conv => whnf)) | (apply load_at; (conv => lhs; rw [add_plain, add_plain]); (with_reducible assumption); rfl; (conv => whnf)) | (apply loads_at; (conv => lhs; whnf); (with_reducible assumption); rfl; (conv => whnf)) | (refine ⟨⟨by omega, by omega⟩, ?_⟩; (conv => whnf))))
    refine store_step p 2 _ (cmdC k y z ff o n pp d l a ab ⟨nm.toArray⟩ (.slice A ls.length cc)) rfl hp1 rfl rfl (.inl (Nat.le_refl 0)) (one_int _ _) ?_
    ((conv => whnf); repeat (first | (apply load_at; (conv => lhs; whnf); (with_reducible assumption); rfl; (conv => whnf)) | (apply load_at; (conv => lhs; rw [add_plain, add_plain]); (with_reducible assumption); rfl; (conv => whnf)) | (apply loads_at; (conv => lhs; whnf); (with_reducible assumption); rfl; (conv => whnf)) | (refine ⟨⟨by omega, by omega⟩, ?_⟩; (conv => whnf))))
    exact fin F1 _ ⟨k, y, z, ff, o, n, pp, d, l, a, ab, nm, ls⟩ rfl hgb hk rfl
  · (refine fn_walk tab_ok Try.func19 rfl rfl rfl rfl ?_; (conv => whnf))
    refine call_of hpl ?_
    rintro v F0 ⟨rfl, rfl⟩
    ((conv => whnf); repeat (first | (apply load_at; (conv => lhs; whnf); (with_reducible assumption); rfl; (conv => whnf)) | (apply load_at; (conv => lhs; rw [add_plain, add_plain]); (with_reducible assumption); rfl; (conv => whnf)) | (apply loads_at; (conv => lhs; whnf); (with_reducible assumption); rfl; (conv => whnf)) | (refine ⟨⟨by omega, by omega⟩, ?_⟩; (conv => whnf))))
    refine call_of hN ?_
    rintro v F1 ⟨rfl, hgb, hk⟩
    have hp1 := hk _ _ hp0 (fun e => hpb (Option.some.inj e).symm)
    ((conv => whnf); repeat (first | (apply load_at; (conv => lhs; whnf); (with_reducible assumption); rfl; (conv => whnf)) | (apply load_at; (conv => lhs; rw [add_plain, add_plain]); (with_reducible assumption); rfl; (conv => whnf)) | (apply loads_at; (conv => lhs; whnf); (with_reducible assumption); rfl; (conv => whnf)) | (refine ⟨⟨by omega, by omega⟩, ?_⟩; (conv => whnf))))
    refine store_step p 3 _ (cmdC k y x z o n pp d l a ab ⟨nm.toArray⟩ (.slice A ls.length cc)) rfl hp1 rfl rfl (.inl (Nat.le_refl 0)) (one_int _ _) ?_
    ((conv => whnf); repeat (first | (apply load_at; (conv => lhs; whnf); (with_reducible assumption); rfl; (conv => whnf)) | (apply load_at; (conv => lhs; rw [add_plain, add_plain]); (with_reducible assumption); rfl; (conv => whnf)) | (apply loads_at; (conv => lhs; whnf); (with_reducible assumption); rfl; (conv => whnf)) | (refine ⟨⟨by omega, by omega⟩, ?_⟩; (conv => whnf))))
    exact fin F1 _ ⟨k, y, x, z, o, n, pp, d, l, a, ab, nm, ls⟩ rfl hgb hk rfl
  · (refine fn_walk tab_ok Try.func19 rfl rfl rfl rfl ?_; (conv => whnf))
    refine call_of hpl ?_
    rintro v F0 ⟨rfl, rfl⟩
    ((conv => whnf); repeat (first | (apply load_at; (conv => lhs; whnf); (with_reducible assumption); rfl; (conv => whnf)) | (apply load_at; (conv => lhs; rw [add_plain, add_plain]); (with_reducible assumption); rfl; (conv => whnf)) | (apply loads_at; (conv => lhs; whnf); (with_reducible assumption); rfl; (conv => whnf)) | (refine ⟨⟨by omega, by omega⟩, ?_⟩; (conv => whnf))))
    refine call_of hN ?_
    rintro v F1 ⟨rfl, hgb, hk⟩
    have hp1 := hk _ _ hp0 (fun e => hpb (Option.some.inj e).symm)
    ((conv => whnf); repeat (first | (apply load_at; (conv => lhs; whnf); (with_reducible assumption); rfl; (conv => whnf)) | (apply load_at; (conv => lhs; rw [add_plain, add_plain]); (with_reducible assumption); rfl; (conv => whnf)) | (apply loads_at; (conv => lhs; whnf); (with_reducible assumption); rfl; (conv => whnf)) | (refine ⟨⟨by omega, by omega⟩, ?_⟩; (conv => whnf))))
    refine store_step p 4 _ (cmdC k y x ff z n pp d l a ab ⟨nm.toArray⟩ (.slice A ls.length cc)) rfl hp1 rfl rfl (.inl (Nat.le_refl 0)) (one_int _ _) ?_
    ((conv => whnf); repeat (first | (apply load_at; (conv => lhs; whnf); (with_reducible assumption); rfl; (conv => whnf)) | (apply load_at; (conv => lhs; rw [add_plain, add_plain]); (with_reducible assumption); rfl; (conv => whnf)) | (apply loads_at; (conv => lhs; whnf); (with_reducible assumption); rfl; (conv => whnf)) | (refine ⟨⟨by omega, by omega⟩, ?_⟩; (conv => whnf))))
    exact fin F1 _ ⟨k, y, x, ff, z, n, pp, d, l, a, ab, nm, ls⟩ rfl hgb hk rfl
  · (refine fn_walk tab_ok Try.func19 rfl rfl rfl rfl ?_; (conv => whnf))
    refine call_of hpl ?_
    rintro v F0 ⟨rfl, rfl⟩
    ((conv => whnf); repeat (first | (apply load_at; (conv => lhs; whnf); (with_reducible assumption); rfl; (conv => whnf)) | (apply load_at; (conv => lhs; rw [add_plain, add_plain]); (with_reducible assumption); rfl; (conv => whnf)) | (apply loads_at; (conv => lhs; whnf); (with_reducible assumption); rfl; (conv => whnf)) | (refine ⟨⟨by omega, by omega⟩, ?_⟩; (conv => whnf))))
    refine call_of hN ?_
    rintro v F1 ⟨rfl, hgb, hk⟩
    have hp1 := hk _ _ hp0 (fun e => hpb (Option.some.inj e).symm)
    ((conv => whnf); repeat (first | (apply load_at; (conv => lhs; whnf); (with_reducible assumption); rfl; (conv => whnf)) | (apply load_at; (conv => lhs; rw [add_plain, add_plain]); (with_reducible assumption); rfl; (conv => whnf)) | (apply loads_at; (conv => lhs; whnf); (with_reducible assumption); rfl; (conv => whnf)) | (refine ⟨⟨by omega, by omega⟩, ?_⟩; (conv => whnf))))
    refine store_step p 5 _ (cmdC k y x ff o z pp d l a ab ⟨nm.toArray⟩ (.slice A ls.length cc)) rfl hp1 rfl rfl (.inl (Nat.le_refl 0)) (one_int _ _) ?_
    ((conv => whnf); repeat (first | (apply load_at; (conv => lhs; whnf); (with_reducible assumption); rfl; (conv => whnf)) | (apply load_at; (conv => lhs; rw [add_plain, add_plain]); (with_reducible assumption); rfl; (conv => whnf)) | (apply loads_at; (conv => lhs; whnf); (with_reducible assumption); rfl; (conv => whnf)) | (refine ⟨⟨by omega, by omega⟩, ?_⟩; (conv => whnf))))
    exact fin F1 _ ⟨k, y, x, ff, o, z, pp, d, l, a, ab, nm, ls⟩ rfl hgb hk rfl
  · (refine fn_walk tab_ok Try.func19 rfl rfl rfl rfl ?_; (conv => whnf))
    refine call_of hpl ?_
    rintro v F0 ⟨rfl, rfl⟩
    ((conv => whnf); repeat (first | (apply load_at; (conv => lhs; whnf); (with_reducible assumption); rfl; (conv => whnf)) | (apply load_at; (conv => lhs; rw [add_plain, add_plain]); (with_reducible assumption); rfl; (conv => whnf)) | (apply loads_at; (conv => lhs; whnf); (with_reducible assumption); rfl; (conv => whnf)) | (refine ⟨⟨by omega, by omega⟩, ?_⟩; (conv => whnf))))
    refine call_of hN ?_
    rintro v F1 ⟨rfl, hgb, hk⟩
    have hp1 := hk _ _ hp0 (fun e => hpb (Option.some.inj e).symm)
    ((conv => whnf); repeat (first | (apply load_at; (conv => lhs; whnf); (with_reducible assumption); rfl; (conv => whnf)) | (apply load_at; (conv => lhs; rw [add_plain, add_plain]); (with_reducible assumption); rfl; (conv => whnf)) | (apply loads_at; (conv => lhs; whnf); (with_reducible assumption); rfl; (conv => whnf)) | (refine ⟨⟨by omega, by omega⟩, ?_⟩; (conv => whnf))))
    refine store_step p 6 _ (cmdC k y x ff o n z d l a ab ⟨nm.toArray⟩ (.slice A ls.length cc)) rfl hp1 rfl rfl (.inl (Nat.le_refl 0)) (one_int _ _) ?_
    ((conv => whnf); repeat (first | (apply load_at; (conv => lhs; whnf); (with_reducible assumption); rfl; (conv => whnf)) | (apply load_at; (conv => lhs; rw [add_plain, add_plain]); (with_reducible assumption); rfl; (conv => whnf)) | (apply loads_at; (conv => lhs; whnf); (with_reducible assumption); rfl; (conv => whnf)) | (refine ⟨⟨by omega, by omega⟩, ?_⟩; (conv => whnf))))
    exact fin F1 _ ⟨k, y, x, ff, o, n, z, d, l, a, ab, nm, ls⟩ rfl hgb hk rfl
  · (refine fn_walk tab_ok Try.func19 rfl rfl rfl rfl ?_; (conv => whnf))
    refine call_of hpl ?_
    rintro v F0 ⟨rfl, rfl⟩
    ((conv => whnf); repeat (first | (apply load_at; (conv => lhs; whnf); (with_reducible assumption); rfl; (conv => whnf)) | (apply load_at; (conv => lhs; rw [add_plain, add_plain]); (with_reducible assumption); rfl; (conv => whnf)) | (apply loads_at; (conv => lhs; whnf); (with_reducible assumption); rfl; (conv => whnf)) | (refine ⟨⟨by omega, by omega⟩, ?_⟩; (conv => whnf))))
    refine call_of hN ?_
    rintro v F1 ⟨rfl, hgb, hk⟩
    have hp1 := hk _ _ hp0 (fun e => hpb (Option.some.inj e).symm)
    ((conv => whnf); repeat (first | (apply load_at; (conv => lhs; whnf); (with_reducible assumption); rfl; (conv => whnf)) | (apply load_at; (conv => lhs; rw [add_plain, add_plain]); (with_reducible assumption); rfl; (conv => whnf)) | (apply loads_at; (conv => lhs; whnf); (with_reducible assumption); rfl; (conv => whnf)) | (refine ⟨⟨by omega, by omega⟩, ?_⟩; (conv => whnf))))
    refine store_step p 7 _ (cmdC k y x ff o n pp z l a ab ⟨nm.toArray⟩ (.slice A ls.length cc)) rfl hp1 rfl rfl (.inl (Nat.le_refl 0)) (one_int _ _) ?_
    ((conv => whnf); repeat (first | (apply load_at; (conv => lhs; whnf); (with_reducible assumption); rfl; (conv => whnf)) | (apply load_at; (conv => lhs; rw [add_plain, add_plain]); (with_reducible assumption); rfl; (conv => whnf)) | (apply loads_at; (conv => lhs; whnf); (with_reducible assumption); rfl; (conv => whnf)) | (refine ⟨⟨by omega, by omega⟩, ?_⟩; (conv => whnf))))
    exact fin F1 _ ⟨k, y, x, ff, o, n, pp, z, l, a, ab, nm, ls⟩ rfl hgb hk rfl
  · (refine fn_walk tab_ok Try.func19 rfl rfl rfl rfl ?_; (conv => whnf))
    refine call_of hpl ?_
    rintro v F0 ⟨rfl, rfl⟩
    ((conv => whnf); repeat (first | (apply load_at; (conv => lhs; whnf); (with_reducible assumption); rfl; (conv => whnf)) | (apply load_at; (conv => lhs; rw [add_plain, add_plain]); (with_reducible assumption); rfl; (conv => whnf)) | (apply loads_at; (conv => lhs; whnf); (with_reducible assumption); rfl; (conv => whnf)) | (refine ⟨⟨by omega, by omega⟩, ?_⟩; (conv => whnf))))
    refine call_of hN ?_
    rintro v F1 ⟨rfl, hgb, hk⟩
    have hp1 := hk _ _ hp0 (fun e => hpb (Option.some.inj e).symm)
    ((conv => whnf); repeat (first | (apply load_at; (conv => lhs; whnf); (with_reducible assumption); rfl; (conv => whnf)) | (apply load_at; (conv => lhs; rw [add_plain, add_plain]); (with_reducible assumption); rfl; (conv => whnf)) | (apply loads_at; (conv => lhs; whnf); (with_reducible assumption); rfl; (conv => whnf)) | (refine ⟨⟨by omega, by omega⟩, ?_⟩; (conv => whnf))))
    refine store_step p 8 _ (cmdC k y x ff o n pp d z a ab ⟨nm.toArray⟩ (.slice A ls.length cc)) rfl hp1 rfl rfl (.inl (Nat.le_refl 0)) (one_int _ _) ?_
    ((conv => whnf); repeat (first | (apply load_at; (conv => lhs; whnf); (with_reducible assumption); rfl; (conv => whnf)) | (apply load_at; (conv => lhs; rw [add_plain, add_plain]); (with_reducible assumption); rfl; (conv => whnf)) | (apply loads_at; (conv => lhs; whnf); (with_reducible assumption); rfl; (conv => whnf)) | (refine ⟨⟨by omega, by omega⟩, ?_⟩; (conv => whnf))))
    exact fin F1 _ ⟨k, y, x, ff, o, n, pp, d, z, a, ab, nm, ls⟩ rfl hgb hk rfl
  · (refine fn_walk tab_ok Try.func19 rfl rfl rfl rfl ?_; (conv => whnf))
    refine call_of hpl ?_
    rintro v F0 ⟨rfl, rfl⟩
    ((conv => whnf); repeat (first | (apply load_at; (conv => lhs; whnf); (with_reducible assumption); rfl; (conv => whnf)) | (apply load_at; (conv => lhs; rw [add_plain, add_plain]); (with_reducible assumption); rfl; (conv => whnf)) | (apply loads_at; (conv => lhs; whnf); (with_reducible assumption); rfl; (conv => whnf)) | (refine ⟨⟨by omega, by omega⟩, ?_⟩; (conv => whnf))))
    refine call_of hN ?_
    rintro v F1 ⟨rfl, hgb, hk⟩
    have hp1 := hk _ _ hp0 (fun e => hpb (Option.some.inj e).symm)
    ((conv => whnf); repeat (first | (apply load_at; (conv => lhs; whnf); (with_reducible assumption); rfl; (conv => whnf)) | (apply load_at; (conv => lhs; rw [add_plain, add_plain]); (with_reducible assumption); rfl; (conv => whnf)) | (apply loads_at; (conv => lhs; whnf); (with_reducible assumption); rfl; (conv => whnf)) | (refine ⟨⟨by omega, by omega⟩, ?_⟩; (conv => whnf))))
    refine store_step p 9 _ (cmdC k y x ff o n pp d l z ab ⟨nm.toArray⟩ (.slice A ls.length cc)) rfl hp1 rfl rfl (.inl (Nat.le_refl 0)) (one_int _ _) ?_
    ((conv => whnf); repeat (first | (apply load_at; (conv => lhs; whnf); (with_reducible assumption); rfl; (conv => whnf)) | (apply load_at; (conv => lhs; rw [add_plain, add_plain]); (with_reducible assumption); rfl; (conv => whnf)) | (apply loads_at; (conv => lhs; whnf); (with_reducible assumption); rfl; (conv => whnf)) | (refine ⟨⟨by omega, by omega⟩, ?_⟩; (conv => whnf))))
    exact fin F1 _ ⟨k, y, x, ff, o, n, pp, d, l, z, ab, nm, ls⟩ rfl hgb hk rfl
theorem field (f : Nat) (hf : f ≤ 12) (c : CD) (r : RD) (p b : Nat) (hpb : p ≠ b) (ms : List Nat) (hms : p ∈ ms ∧ b ∈ ms) (F : Heap) (hmF : ∀ m ∈ ms, F m ≠ none) (hp : CmdAt F ms p c) (hb : F b = some (rdR r)) (hl : r.rest.length ≤ 1000000) : FnK Try.prog 19 #[.pointer (some ⟨b, 0, none⟩), .pointer (some ⟨p, 0, none⟩), .int .i64 (f : Int)] F (fun v F' => CmdAt F' ms p (fieldS f c r).1 ∧ F' b = some (rdR (fieldS f c r).2) ∧ Keep2 F F' p b) := by
  by_cases h : f ≤ 8
  · exact fieldNum f h c r p b hpb ms hms F hmF hp hb hl
  · obtain rfl | rfl | rfl | rfl : f = 9 ∨ f = 10 ∨ f = 11 ∨ f = 12 := by omega
    · exact field9 c r p b hpb ms hms F hmF hp hb hl
    · exact field10 c r p b hpb ms hms F hmF hp hb
    · exact fieldL true c r p b hpb ms hms F hmF hp hb hl
    · exact fieldL false c r p b hpb ms hms F hmF hp hb hl
theorem fieldS_rest (f : Nat) (c : CD) (r : RD) : (fieldS f c r).2.rest.length ≤ r.rest.length := by
  unfold fieldS
  split
  · exact Nat.zero_le _
  split
  · exact (wordS_len r).2
  split
  · exact linesS_rest _ _ _
  split
  · exact linesS_rest _ _ _
  · exact numS_rest r
end Go.Proofs.Ytbgijjoemnfnmaa.Al
/- exchequer/text.Parse. -/
namespace Go.Proofs.Ytbgijjoemnfnmaa.Al
open Go Go.Al Go.Proofs Go.RowKit
set_option maxHeartbeats 8000000
set_option maxRecDepth 100000
set_option linter.unusedVariables false
set_option linter.unusedSimpArgs false
def zeroC : CD := ⟨0, 0, 0, 0, 0, 0, 0, 0, 0, 0, false, [], []⟩
def kindC (k : Nat) : CD := ⟨k, 0, 0, 0, 0, 0, 0, 0, 0, 0, false, [], []⟩
def kindS (w : List UInt8) : Nat := (idxW w wordsL 0 + 1).toNat
theorem idxW_range (w : List UInt8) : ∀ (ws : List (List UInt8)) (i : Nat), -1 ≤ idxW w ws i ∧ idxW w ws i < (i : Int) + ws.length
  | [], i => ⟨Int.le_refl _, by show (-1 : Int) < (i : Int) + ((0 : Nat) : Int); omega⟩
  | x :: l, i => by
    have h := idxW_range w l (i + 1)
    show -1 ≤ (if w = x then (i : Int) else idxW w l (i + 1)) ∧ (if w = x then (i : Int) else idxW w l (i + 1)) < (i : Int) + ((x :: l).length : Nat)
    rw [List.length_cons]
    split <;> omega
theorem kindS_eq (w : List UInt8) : idxW w wordsL 0 + 1 = (kindS w : Int) ∧ kindS w ≤ 20 := by
  have h := idxW_range w wordsL 0
  have hl : wordsL.length = 20 := rfl
  rw [hl] at h
  unfold kindS
  omega
def foldS (fs : List Nat) (q : CD × RD) : CD × RD := fs.foldl (fun q f => fieldS f q.1 q.2) q
def parseS (s : List UInt8) : CD × Int :=
  if 4096 < s.length then (zeroC, 16)
  else if kindS (wordS ⟨s, true, false⟩).1 = 0 then (zeroC, 14)
  else if ((foldS (asksL (kindS (wordS ⟨s, true, false⟩).1)) (kindC (kindS (wordS ⟨s, true, false⟩).1), (wordS ⟨s, true, false⟩).2)).2.bad || ((foldS (asksL (kindS (wordS ⟨s, true, false⟩).1)) (kindC (kindS (wordS ⟨s, true, false⟩).1), (wordS ⟨s, true, false⟩).2)).2.more || !mayB (foldS (asksL (kindS (wordS ⟨s, true, false⟩).1)) (kindC (kindS (wordS ⟨s, true, false⟩).1), (wordS ⟨s, true, false⟩).2)).1)) = true then (zeroC, 14)
  else ((foldS (asksL (kindS (wordS ⟨s, true, false⟩).1)) (kindC (kindS (wordS ⟨s, true, false⟩).1), (wordS ⟨s, true, false⟩).2)).1, 0)
abbrev aggOf (c : CD) (A : Option Addr) (cc : Nat) : Value := .agg (cmdC c.k c.y c.x c.f c.o c.n c.p c.d c.l c.a c.ab ⟨c.nm.toArray⟩ (.slice A c.ls.length cc))
theorem linesS_len (thr : Bool) : ∀ (m : Nat) (r : RD), (linesS thr m r).1.length ≤ m
  | 0, r => Nat.le_refl _
  | m + 1, r => by
    cases h : (r.more && !r.bad) with
    | false => rw [linesS_end h]; exact Nat.zero_le _
    | true =>
      rw [linesS_go h]
      have := linesS_len thr m (lineS thr r).2
      show (linesS thr m (lineS thr r).2).1.length + 1 ≤ _
      omega
def OkC (N : Nat) (q : CD × RD) : Prop := q.1.nm.length ≤ N ∧ q.1.ls.length ≤ N + 1 ∧ q.2.rest.length ≤ N
theorem setF_parts (c : CD) (f : Nat) (n : Int) : (setF c f n).nm = c.nm ∧ (setF c f n).ls = c.ls ∧ (setF c f n).k = c.k ∧ (setF c f n).ab = c.ab := by
  unfold setF
  split <;> exact ⟨rfl, rfl, rfl, rfl⟩
theorem okC_field {N : Nat} {c : CD} {r : RD} (f : Nat) (h : OkC N (c, r)) : OkC N (fieldS f c r) := by
  obtain ⟨h1, h2, h3⟩ := h
  have hr := fieldS_rest f c r
  have hmu : mu r ≤ N + 1 := by unfold mu; dsimp only at h3; split <;> omega
  refine ⟨?_, ?_, Nat.le_trans hr h3⟩
  · unfold fieldS
    split
    · exact h3
    split
    · exact h1
    split
    · exact h1
    split
    · exact h1
    · dsimp only
      rw [(setF_parts c f _).1]
      exact h1
  · unfold fieldS
    split
    · exact h2
    split
    · exact h2
    split
    · exact Nat.le_trans (linesS_len _ _ _) hmu
    split
    · exact Nat.le_trans (linesS_len _ _ _) hmu
    · dsimp only
      rw [(setF_parts c f _).2.1]
      exact h2
theorem asksL_le (k : Nat) : ∀ f ∈ asksL k, f ≤ 12 := by
  by_cases hk : 1 ≤ k ∧ k ≤ 20
  · rcases asksN k hk with rfl | rfl | rfl | rfl | rfl | rfl | rfl | rfl | rfl | rfl | rfl | rfl | rfl | rfl | rfl | rfl | rfl | rfl | rfl | rfl <;> decide
  · intro f hf
    have : asksL k = [] := by
      unfold asksL
      split <;> first | rfl | omega
    rw [this] at hf
    cases hf
theorem asksL_len (k : Nat) : (asksL k).length ≤ 7 := by
  by_cases hk : 1 ≤ k ∧ k ≤ 20
  · rcases asksN k hk with rfl | rfl | rfl | rfl | rfl | rfl | rfl | rfl | rfl | rfl | rfl | rfl | rfl | rfl | rfl | rfl | rfl | rfl | rfl | rfl <;> decide
  · have : asksL k = [] := by
      unfold asksL
      split <;> first | rfl | omega
    rw [this]
    decide
theorem zero_ones : ∀ v ∈ (cmdC 0 0 0 0 0 0 0 0 0 0 false ⟨#[]⟩ (.slice none 0 0)).toList, v.oneCell' = true := by
  intro v hv
  have hv : v ∈ [Value.int .i64 0, .int .i64 0, .int .i64 0, .int .i64 0, .int .i64 0, .int .i64 0, .int .i64 0, .int .i64 0, .int .i64 0, .int .i64 0, .bool false, .string ⟨#[]⟩, .slice none 0 0] := hv
  simp only [List.mem_cons, List.not_mem_nil, or_false] at hv
  rcases hv with rfl | rfl | rfl | rfl | rfl | rfl | rfl | rfl | rfl | rfl | rfl | rfl | rfl <;> rfl
theorem kind_ones (k : Int) : ∀ v ∈ (cmdC k 0 0 0 0 0 0 0 0 0 false ⟨#[]⟩ (.slice none 0 0)).toList, v.oneCell' = true := by
  intro v hv
  have hv : v ∈ [Value.int .i64 k, .int .i64 0, .int .i64 0, .int .i64 0, .int .i64 0, .int .i64 0, .int .i64 0, .int .i64 0, .int .i64 0, .int .i64 0, .bool false, .string ⟨#[]⟩, .slice none 0 0] := hv
  simp only [List.mem_cons, List.not_mem_nil, or_false] at hv
  rcases hv with rfl | rfl | rfl | rfl | rfl | rfl | rfl | rfl | rfl | rfl | rfl | rfl | rfl <;> rfl
theorem cmd_ones (k y x f o n p d l a : Int) (ab : Bool) (nm : ByteArray) (A : Option Addr) (m c : Nat) : ∀ v ∈ (cmdC k y x f o n p d l a ab nm (.slice A m c)).toList, v.oneCell' = true := by
  intro v hv
  have hv : v ∈ [Value.int .i64 k, .int .i64 y, .int .i64 x, .int .i64 f, .int .i64 o, .int .i64 n, .int .i64 p, .int .i64 d, .int .i64 l, .int .i64 a, .bool ab, .string nm, .slice A m c] := hv
  simp only [List.mem_cons, List.not_mem_nil, or_false] at hv
  rcases hv with rfl | rfl | rfl | rfl | rfl | rfl | rfl | rfl | rfl | rfl | rfl | rfl | rfl <;> rfl
theorem put_back {F : Heap} {b : Nat} {o : Obj} (h : F b = some o) : F.put b o = F := by
  funext c
  unfold Heap.put
  split
  · next e => rw [e]; exact h.symm
  · rfl
theorem CmdAt.mono {F G : Heap} {ms : List Nat} {p : Nat} {c : CD} (h : CmdAt F ms p c) (hE : Ext F G) : CmdAt G ms p c := by
  obtain ⟨A, cc, h1, h2, h3⟩ := h
  exact ⟨A, cc, hE _ _ h1, h2.mono hE, h3⟩
theorem parse (s : List UInt8) (F : Heap) : FnK Try.prog 7 #[str s] F (fun v F' => (∃ A cc, v = .tuple #[aggOf (parseS s).1 A cc, .int .i64 (parseS s).2] ∧ RowAt F' A (linesV (parseS s).1.ls)) ∧ Ext F F') := by
  obtain ⟨res, hres⟩ : ∃ r, r = parseS s := ⟨_, rfl⟩
  rw [← hres]
  unfold parseS at hres
  by_cases h4 : 4096 < s.length
  · rw [if_pos h4] at hres
    subst hres
    (refine fn_walk tab_ok Try.func7 rfl rfl rfl rfl ?_; (conv => whnf))
    refine new_step (cmdO 0 0 0 0 0 0 0 0 0 0 false ⟨#[]⟩ (.slice none 0 0)) rfl fun z h0_z => ?_
    have hE_z := Ext.new h0_z (cmdO 0 0 0 0 0 0 0 0 0 0 false ⟨#[]⟩ (.slice none 0 0))
    have hB_z := Heap.put_same F z (cmdO 0 0 0 0 0 0 0 0 0 0 false ⟨#[]⟩ (.slice none 0 0))
    generalize F.put z _ = F1 at hE_z hB_z ⊢
    ((conv => whnf); repeat (first | (apply load_at; (conv => lhs; whnf); (with_reducible assumption); rfl; (conv => whnf)) | (apply load_at; (conv => lhs; rw [add_plain, add_plain]); (with_reducible assumption); rfl; (conv => whnf)) | (apply loads_at; (conv => lhs; whnf); (with_reducible assumption); rfl; (conv => whnf)) | (refine ⟨⟨by omega, by omega⟩, ?_⟩; (conv => whnf))))
    refine cond_split (fun h => ?_) (fun h => ?_)
    · ((conv => whnf); repeat (first | (apply load_at; (conv => lhs; whnf); (with_reducible assumption); rfl; (conv => whnf)) | (apply load_at; (conv => lhs; rw [add_plain, add_plain]); (with_reducible assumption); rfl; (conv => whnf)) | (apply loads_at; (conv => lhs; whnf); (with_reducible assumption); rfl; (conv => whnf)) | (refine ⟨⟨by omega, by omega⟩, ?_⟩; (conv => whnf))))
      refine store_step z 0 _ (cmdC 0 0 0 0 0 0 0 0 0 0 false ⟨#[]⟩ (.slice none 0 0)) rfl hB_z rfl rfl (.inl (Nat.le_refl 0)) zero_ones ?_
      rw [show F1.put z (cmdO 0 0 0 0 0 0 0 0 0 0 false ⟨#[]⟩ (.slice none 0 0)) = F1 from put_back hB_z]
      ((conv => whnf); repeat (first | (apply load_at; (conv => lhs; whnf); (with_reducible assumption); rfl; (conv => whnf)) | (apply load_at; (conv => lhs; rw [add_plain, add_plain]); (with_reducible assumption); rfl; (conv => whnf)) | (apply loads_at; (conv => lhs; whnf); (with_reducible assumption); rfl; (conv => whnf)) | (refine ⟨⟨by omega, by omega⟩, ?_⟩; (conv => whnf))))
      refine res_cells tab_ok rfl rfl hB_z rfl ?_
      ((conv => whnf); repeat (first | (apply load_at; (conv => lhs; whnf); (with_reducible assumption); rfl; (conv => whnf)) | (apply load_at; (conv => lhs; rw [add_plain, add_plain]); (with_reducible assumption); rfl; (conv => whnf)) | (apply loads_at; (conv => lhs; whnf); (with_reducible assumption); rfl; (conv => whnf)) | (refine ⟨⟨by omega, by omega⟩, ?_⟩; (conv => whnf))))
      exact ⟨⟨none, 0, rfl, RowAt.nil _ _⟩, hE_z⟩
    · have h : decide ((s.length : Int) > 4096) = false := h
      have := of_decide_eq_false h
      omega
  rw [if_neg h4] at hres
  have hs : s.length ≤ 5000 := by omega
  have hwo := fun b F h => word ⟨s, true, false⟩ b F h (by show s.length ≤ _; omega)
  have hwl := (wordS_len ⟨s, true, false⟩).2
  generalize wordS ⟨s, true, false⟩ = p0 at hres hwo hwl
  obtain ⟨w, r1⟩ := p0
  replace hwl : r1.rest.length ≤ 5000 := Nat.le_trans hwl hs
  replace hwo : ∀ b F, F b = some (rdO s true false) → FnK Try.prog 17 #[.pointer (some ⟨b, 0, none⟩)] F (fun v F' => v = str w ∧ F' = F.put b (rdR r1)) := hwo
  obtain ⟨hk1, hk20⟩ := kindS_eq w
  have hix := fun A c F h => indexStr wordsL w A c F h (by decide)
  replace hix : ∀ A c F, RowAt F A (txV wordsL) → FnK Try.prog 16 #[.slice A 20 c, str w] F (fun v F' => v = .int .i64 ((kindS w : Int) - 1) ∧ F' = F) := by
    intro A c F h
    have := hix A c F h
    rw [show (kindS w : Int) - 1 = idxW w wordsL 0 by omega]
    exact this
  clear hk1
  dsimp only at hres
  generalize kindS w = k at hk20 hix hres
  have hkw : IntKind.i64.wrap ((k : Int) - 1 + 1) = (k : Int) := by rw [Int.sub_add_cancel]; exact wrap_eq (by omega) (by omega)
  (refine fn_walk tab_ok Try.func7 rfl rfl rfl rfl ?_; (conv => whnf))
  refine new_step (cmdO 0 0 0 0 0 0 0 0 0 0 false ⟨#[]⟩ (.slice none 0 0)) rfl fun z h0_z => ?_
  have hE_z := Ext.new h0_z (cmdO 0 0 0 0 0 0 0 0 0 0 false ⟨#[]⟩ (.slice none 0 0))
  have hB_z := Heap.put_same F z (cmdO 0 0 0 0 0 0 0 0 0 0 false ⟨#[]⟩ (.slice none 0 0))
  generalize F.put z _ = F1 at hE_z hB_z ⊢
  ((conv => whnf); repeat (first | (apply load_at; (conv => lhs; whnf); (with_reducible assumption); rfl; (conv => whnf)) | (apply load_at; (conv => lhs; rw [add_plain, add_plain]); (with_reducible assumption); rfl; (conv => whnf)) | (apply loads_at; (conv => lhs; whnf); (with_reducible assumption); rfl; (conv => whnf)) | (refine ⟨⟨by omega, by omega⟩, ?_⟩; (conv => whnf))))
  refine cond_split (fun h => ?_) (fun h => ?_)
  · have h : decide ((s.length : Int) > 4096) = true := h
    have := of_decide_eq_true h
    omega
  ((conv => whnf); repeat (first | (apply load_at; (conv => lhs; whnf); (with_reducible assumption); rfl; (conv => whnf)) | (apply load_at; (conv => lhs; rw [add_plain, add_plain]); (with_reducible assumption); rfl; (conv => whnf)) | (apply loads_at; (conv => lhs; whnf); (with_reducible assumption); rfl; (conv => whnf)) | (refine ⟨⟨by omega, by omega⟩, ?_⟩; (conv => whnf))))
  refine new_step (rdO s true false) rfl fun b h0_b => ?_
  have hE_b := Ext.new h0_b (rdO s true false)
  have hB_b := Heap.put_same F1 b (rdO s true false)
  generalize F1.put b _ = F2 at hE_b hB_b ⊢
  have hzb : z ≠ b := fun e => by rw [← e, hB_z] at h0_b; cases h0_b
  have hbz : b ≠ z := Ne.symm hzb
  ((conv => whnf); repeat (first | (apply load_at; (conv => lhs; whnf); (with_reducible assumption); rfl; (conv => whnf)) | (apply load_at; (conv => lhs; rw [add_plain, add_plain]); (with_reducible assumption); rfl; (conv => whnf)) | (apply loads_at; (conv => lhs; whnf); (with_reducible assumption); rfl; (conv => whnf)) | (refine ⟨⟨by omega, by omega⟩, ?_⟩; (conv => whnf))))
  refine call_of (words F2) ?_
  rintro v F3 ⟨g, rfl, hrg, h0g, hE3⟩
  have hB3 := hE3 _ _ hB_b
  have hz3 := hE3 _ _ (hE_b _ _ hB_z)
  ((conv => whnf); repeat (first | (apply load_at; (conv => lhs; whnf); (with_reducible assumption); rfl; (conv => whnf)) | (apply load_at; (conv => lhs; rw [add_plain, add_plain]); (with_reducible assumption); rfl; (conv => whnf)) | (apply loads_at; (conv => lhs; whnf); (with_reducible assumption); rfl; (conv => whnf)) | (refine ⟨⟨by omega, by omega⟩, ?_⟩; (conv => whnf))))
  refine call_of (hwo b F3 hB3) ?_
  rintro v F4 ⟨rfl, rfl⟩
  have hb4 := Heap.put_same F3 b (rdR r1)
  have hz4 := (Heap.put_other F3 (rdR r1) hzb).trans hz3
  have hg4 : RowAt (F3.put b (rdR r1)) (some ⟨g, 0, none⟩) (txV wordsL) := rowAt_keepq hrg (Keeps.put F3 b (rdR r1)) (fun a ha e => by
    cases ha
    rw [show g = b from e, hB_b] at h0g
    cases h0g)
  have hE4 : Ext F (F3.put b (rdR r1)) := ((hE_z.trans hE_b).trans hE3).put (hE_z.none h0_b) _
  generalize F3.put b _ = F4 at hb4 hz4 hg4 hE4 ⊢
  ((conv => whnf); repeat (first | (apply load_at; (conv => lhs; whnf); (with_reducible assumption); rfl; (conv => whnf)) | (apply load_at; (conv => lhs; rw [add_plain, add_plain]); (with_reducible assumption); rfl; (conv => whnf)) | (apply loads_at; (conv => lhs; whnf); (with_reducible assumption); rfl; (conv => whnf)) | (refine ⟨⟨by omega, by omega⟩, ?_⟩; (conv => whnf))))
  refine call_of (hix _ 20 F4 hg4) ?_
  rintro v F5 ⟨rfl, rfl⟩
  refine short [0, 2, 3, 4, 21] [str s, .pointer (some ⟨z, 0, none⟩), .int .i64 0, .pointer (some ⟨b, 0, none⟩), .int .i64 ((k : Int) - 1)] rfl fun ρ => ?_
  ((conv => whnf); repeat (first | (apply load_at; (conv => lhs; whnf); (with_reducible assumption); rfl; (conv => whnf)) | (apply load_at; (conv => lhs; rw [add_plain, add_plain]); (with_reducible assumption); rfl; (conv => whnf)) | (apply loads_at; (conv => lhs; whnf); (with_reducible assumption); rfl; (conv => whnf)) | (refine ⟨⟨by omega, by omega⟩, ?_⟩; (conv => whnf))))
  refine cond_split (fun h => ?_) (fun h => ?_)
  · replace h : k = 0 := by
      have h : decide (IntKind.i64.wrap ((k : Int) - 1 + 1) = 0) = true := h
      rw [hkw] at h
      have := of_decide_eq_true h
      omega
    rw [if_pos h] at hres
    subst hres
    ((conv => whnf); repeat (first | (apply load_at; (conv => lhs; whnf); (with_reducible assumption); rfl; (conv => whnf)) | (apply load_at; (conv => lhs; rw [add_plain, add_plain]); (with_reducible assumption); rfl; (conv => whnf)) | (apply loads_at; (conv => lhs; whnf); (with_reducible assumption); rfl; (conv => whnf)) | (refine ⟨⟨by omega, by omega⟩, ?_⟩; (conv => whnf))))
    refine store_step z 0 _ (cmdC 0 0 0 0 0 0 0 0 0 0 false ⟨#[]⟩ (.slice none 0 0)) rfl hz4 rfl rfl (.inl (Nat.le_refl 0)) zero_ones ?_
    rw [show F5.put z (cmdO 0 0 0 0 0 0 0 0 0 0 false ⟨#[]⟩ (.slice none 0 0)) = F5 from put_back hz4]
    ((conv => whnf); repeat (first | (apply load_at; (conv => lhs; whnf); (with_reducible assumption); rfl; (conv => whnf)) | (apply load_at; (conv => lhs; rw [add_plain, add_plain]); (with_reducible assumption); rfl; (conv => whnf)) | (apply loads_at; (conv => lhs; whnf); (with_reducible assumption); rfl; (conv => whnf)) | (refine ⟨⟨by omega, by omega⟩, ?_⟩; (conv => whnf))))
    refine res_cells tab_ok rfl rfl hz4 rfl ?_
    ((conv => whnf); repeat (first | (apply load_at; (conv => lhs; whnf); (with_reducible assumption); rfl; (conv => whnf)) | (apply load_at; (conv => lhs; rw [add_plain, add_plain]); (with_reducible assumption); rfl; (conv => whnf)) | (apply loads_at; (conv => lhs; whnf); (with_reducible assumption); rfl; (conv => whnf)) | (refine ⟨⟨by omega, by omega⟩, ?_⟩; (conv => whnf))))
    exact ⟨⟨none, 0, rfl, RowAt.nil _ _⟩, hE4⟩
  have hk0 : 1 ≤ k := by
    have h : decide (IntKind.i64.wrap ((k : Int) - 1 + 1) = 0) = false := h
    rw [hkw] at h
    have := of_decide_eq_false h
    omega
  rw [if_neg (by omega)] at hres
  have hask := asks k ⟨hk0, hk20⟩
  have hfl := asksL_le k
  have hfn := asksL_len k
  generalize asksL k = fs at hask hfl hfn hres
  refine short [2, 3, 4, 5] [.pointer (some ⟨z, 0, none⟩), .int .i64 0, .pointer (some ⟨b, 0, none⟩), .int .i64 k] (congrArg (fun x => [Value.pointer (some ⟨z, 0, none⟩), .int .i64 0, .pointer (some ⟨b, 0, none⟩), .int .i64 x]) hkw) fun ρ => ?_
  ((conv => whnf); repeat (first | (apply load_at; (conv => lhs; whnf); (with_reducible assumption); rfl; (conv => whnf)) | (apply load_at; (conv => lhs; rw [add_plain, add_plain]); (with_reducible assumption); rfl; (conv => whnf)) | (apply loads_at; (conv => lhs; whnf); (with_reducible assumption); rfl; (conv => whnf)) | (refine ⟨⟨by omega, by omega⟩, ?_⟩; (conv => whnf))))
  refine new_step (cmdO 0 0 0 0 0 0 0 0 0 0 false ⟨#[]⟩ (.slice none 0 0)) rfl fun p h0_p => ?_
  have hE_p := Ext.new h0_p (cmdO 0 0 0 0 0 0 0 0 0 0 false ⟨#[]⟩ (.slice none 0 0))
  have hB_p := Heap.put_same F5 p (cmdO 0 0 0 0 0 0 0 0 0 0 false ⟨#[]⟩ (.slice none 0 0))
  generalize F5.put p _ = F6 at hE_p hB_p ⊢
  have hpz : p ≠ z := fun e => by rw [e, hz4] at h0_p; cases h0_p
  have hpb : p ≠ b := fun e => by rw [e, hb4] at h0_p; cases h0_p
  ((conv => whnf); repeat (first | (apply load_at; (conv => lhs; whnf); (with_reducible assumption); rfl; (conv => whnf)) | (apply load_at; (conv => lhs; rw [add_plain, add_plain]); (with_reducible assumption); rfl; (conv => whnf)) | (apply loads_at; (conv => lhs; whnf); (with_reducible assumption); rfl; (conv => whnf)) | (refine ⟨⟨by omega, by omega⟩, ?_⟩; (conv => whnf))))
  refine store_step p 0 _ (cmdC k 0 0 0 0 0 0 0 0 0 false ⟨#[]⟩ (.slice none 0 0)) rfl hB_p rfl rfl (.inl (Nat.le_refl 0)) (kind_ones _) ?_
  have hp7 : CmdAt (F6.put p (cmdO k 0 0 0 0 0 0 0 0 0 false ⟨#[]⟩ (.slice none 0 0))) [p, b, z] p (kindC k) := ⟨none, 0, Heap.put_same _ _ _, RowAt.nil _ _, fun a ha => by cases ha⟩
  have hb7 := (Heap.put_other F6 (cmdO k 0 0 0 0 0 0 0 0 0 false ⟨#[]⟩ (.slice none 0 0)) (Ne.symm hpb)).trans (hE_p _ _ hb4)
  have hz7 := (Heap.put_other F6 (cmdO k 0 0 0 0 0 0 0 0 0 false ⟨#[]⟩ (.slice none 0 0)) (Ne.symm hpz)).trans (hE_p _ _ hz4)
  have hp0 : F p = none := hE4.none h0_p
  have hE7 : Ext F (F6.put p (cmdO k 0 0 0 0 0 0 0 0 0 false ⟨#[]⟩ (.slice none 0 0))) := (hE4.trans hE_p).put hp0 _
  generalize F6.put p _ = F7 at hp7 hb7 hz7 hE7 ⊢
  ((conv => whnf); repeat (first | (apply load_at; (conv => lhs; whnf); (with_reducible assumption); rfl; (conv => whnf)) | (apply load_at; (conv => lhs; rw [add_plain, add_plain]); (with_reducible assumption); rfl; (conv => whnf)) | (apply loads_at; (conv => lhs; whnf); (with_reducible assumption); rfl; (conv => whnf)) | (refine ⟨⟨by omega, by omega⟩, ?_⟩; (conv => whnf))))
  refine call_of (hask F7) ?_
  rintro v F8 ⟨⟨A, c, rfl, hrow, hfr⟩, hE8⟩
  have hp8 : CmdAt F8 [p, b, z] p (kindC k) := hp7.mono hE8
  obtain ⟨Q, hQ⟩ : ∃ Q, Q = foldS fs (kindC k, r1) := ⟨_, rfl⟩
  rw [← hQ] at hres
  have hA8 : ∀ a, A = some a → a.block ≠ p ∧ a.block ≠ b := fun a ha => by
    have h1 := hfr a ha
    obtain ⟨A', cc, h2, _⟩ := hp7
    refine ⟨fun e => ?_, fun e => ?_⟩
    · rw [e, h2] at h1; cases h1
    · rw [e, hb7] at h1; cases h1
  have hb8 := hE8 _ _ hb7
  have hz8 := hE8 _ _ hz7
  have hE9 := hE7.trans hE8
  have hbF : F b = none := hE_z.none h0_b
  clear hp7 hb7 hz7 hE7
  ((conv => whnf); repeat (first | (apply load_at; (conv => lhs; whnf); (with_reducible assumption); rfl; (conv => whnf)) | (apply load_at; (conv => lhs; rw [add_plain, add_plain]); (with_reducible assumption); rfl; (conv => whnf)) | (apply loads_at; (conv => lhs; whnf); (with_reducible assumption); rfl; (conv => whnf)) | (refine ⟨⟨by omega, by omega⟩, ?_⟩; (conv => whnf))))
  refine loop_slots [2, 4, 6, 29, 30, 31] (fun m vs F' => ∃ (j : Nat) (cd : CD) (r : RD), j + m = fs.length ∧ vs = [.pointer (some ⟨z, 0, none⟩), .pointer (some ⟨b, 0, none⟩), .pointer (some ⟨p, 0, none⟩), .slice A fs.length c, .int .i64 (fs.length : Int), .int .i64 (j : Int)] ∧ Q = foldS (fs.drop j) (cd, r) ∧ OkC 5000 (cd, r) ∧ CmdAt F' [p, b, z] p cd ∧ F' b = some (rdR r) ∧ RowAt F' A (fs.map fun f => .int .i64 ((f : Nat) : Int)) ∧ F' z = some (cmdO 0 0 0 0 0 0 0 0 0 0 false ⟨#[]⟩ (.slice none 0 0)) ∧ Ext F F') fs.length ⟨0, kindC k, r1, by omega, rfl, hQ, ⟨Nat.zero_le _, Nat.zero_le _, hwl⟩, hp8, hb8, hrow, hz8, hE9⟩ ?_
  rintro m vs F9 ρ ⟨j, cd, r, hjm, rfl, hq, hok, hpc, hbc, hrc, hzc, hEc⟩
  ((conv => whnf); repeat (first | (apply load_at; (conv => lhs; whnf); (with_reducible assumption); rfl; (conv => whnf)) | (apply load_at; (conv => lhs; rw [add_plain, add_plain]); (with_reducible assumption); rfl; (conv => whnf)) | (apply loads_at; (conv => lhs; whnf); (with_reducible assumption); rfl; (conv => whnf)) | (refine ⟨⟨by omega, by omega⟩, ?_⟩; (conv => whnf))))
  refine cond_split (fun h => ?_) (fun h => ?_)
  · have hj : j < fs.length := by have := of_decide_eq_true h; omega
    obtain ⟨ad, rfl⟩ := hrc.some (by rw [List.length_map]; omega)
    have hws : IntKind.i64.wrap ((j : Int) + 1) = ((j + 1 : Nat) : Int) := wrap_succ (by omega)
    have hdr : fs.drop j = fs[j] :: fs.drop (j + 1) := List.drop_eq_getElem_cons hj
    have hf12 := hfl fs[j] (List.getElem_mem hj)
    have hc : F9.cell? (ad.add (Int.toNat (j : Int) * 1)) = some (.int .i64 ((fs[j] : Nat) : Int)) := by
      rw [Int.toNat_natCast, Nat.mul_one]
      exact hrc.cell (by rw [List.getElem?_map, List.getElem?_eq_getElem hj]; rfl)
    rw [hdr] at hq
    generalize fs[j] = f at hq hf12 hc
    have hq' : Q = foldS (fs.drop (j + 1)) (fieldS f cd r) := hq
    have hmF : ∀ m ∈ [p, b, z], F9 m ≠ none := fun u hu e => by
      simp only [List.mem_cons, List.not_mem_nil, or_false] at hu
      rcases hu with rfl | rfl | rfl
      · obtain ⟨_, _, h1, _⟩ := hpc; rw [h1] at e; cases e
      · rw [hbc] at e; cases e
      · rw [hzc] at e; cases e
    have hcall := field f hf12 cd r p b hpb [p, b, z] ⟨by simp, by simp⟩ F9 hmF hpc hbc (Nat.le_trans hok.2.2 (by decide))
    have hok' := okC_field f hok
    generalize fieldS f cd r = q2 at hq' hcall hok'
    obtain ⟨cd2, r2⟩ := q2
    ((conv => whnf); repeat (first | (apply load_at; (conv => lhs; whnf); (with_reducible assumption); rfl; (conv => whnf)) | (apply load_at; (conv => lhs; rw [add_plain, add_plain]); (with_reducible assumption); rfl; (conv => whnf)) | (apply loads_at; (conv => lhs; whnf); (with_reducible assumption); rfl; (conv => whnf)) | (refine ⟨⟨by omega, by omega⟩, ?_⟩; (conv => whnf))))
    refine load_step hc ?_
    ((conv => whnf); repeat (first | (apply load_at; (conv => lhs; whnf); (with_reducible assumption); rfl; (conv => whnf)) | (apply load_at; (conv => lhs; rw [add_plain, add_plain]); (with_reducible assumption); rfl; (conv => whnf)) | (apply loads_at; (conv => lhs; whnf); (with_reducible assumption); rfl; (conv => whnf)) | (refine ⟨⟨by omega, by omega⟩, ?_⟩; (conv => whnf))))
    refine call_of hcall ?_
    rintro v F10 ⟨hp10, hb10, hk10⟩
    ((conv => whnf); repeat (first | (apply load_at; (conv => lhs; whnf); (with_reducible assumption); rfl; (conv => whnf)) | (apply load_at; (conv => lhs; rw [add_plain, add_plain]); (with_reducible assumption); rfl; (conv => whnf)) | (apply loads_at; (conv => lhs; whnf); (with_reducible assumption); rfl; (conv => whnf)) | (refine ⟨⟨by omega, by omega⟩, ?_⟩; (conv => whnf))))
    refine ⟨m - 1, by omega, j + 1, cd2, r2, by omega, ?_, hq', hok', hp10, hb10, hk10.row (ms := [p, b]) ⟨by simp, by simp⟩ hrc (fun a ha hm => ?_), hk10 _ _ hzc (Ne.symm hpz) hzb, fun u o hu => hk10 u o (hEc u o hu) (fun e => by rw [e, hp0] at hu; cases hu) (fun e => by rw [e, hbF] at hu; cases hu)⟩
    · rw [← hws]
      rfl
    · simp only [List.mem_cons, List.not_mem_nil, or_false] at hm
      exact hm.elim (hA8 a ha).1 (hA8 a ha).2
  · have hj : j = fs.length := by have := of_decide_eq_false h; omega
    rw [hj, List.drop_length] at hq
    have hq : Q = (cd, r) := hq
    subst hq
    obtain ⟨A', cc, hp9, hr9, hnz⟩ := hpc
    have hrz : ∀ a, A' = some a → a.block ≠ z := fun a ha e => hnz a ha (by simp [e])
    obtain ⟨hn1, hn2, _⟩ := hok
    obtain ⟨kk, y, x, f, o, n, pp, d, l, a, ab, nm, ls⟩ := cd
    have hen := encode kk y x f o n pp d l a ab nm ls A' cc F9 hr9 (Nat.le_trans hn1 (by decide)) (Nat.le_trans hn2 (by decide))
    obtain ⟨rest, more, bad⟩ := r
    dsimp only at hres
    generalize mayB ⟨kk, y, x, f, o, n, pp, d, l, a, ab, nm, ls⟩ = q at hres hen
    replace hp9 : F9 p = some (cmdO kk y x f o n pp d l a ab ⟨nm.toArray⟩ (.slice A' ls.length cc)) := hp9
    replace hbc : F9 b = some (rdO rest more bad) := hbc
    ((conv => whnf); repeat (first | (apply load_at; (conv => lhs; whnf); (with_reducible assumption); rfl; (conv => whnf)) | (apply load_at; (conv => lhs; rw [add_plain, add_plain]); (with_reducible assumption); rfl; (conv => whnf)) | (apply loads_at; (conv => lhs; whnf); (with_reducible assumption); rfl; (conv => whnf)) | (refine ⟨⟨by omega, by omega⟩, ?_⟩; (conv => whnf))))
    refine call_of hen ?_
    rintro v F10 ⟨⟨rr, rfl, _⟩, hE10⟩
    have hp10 := hE10 _ _ hp9
    have hb10 := hE10 _ _ hbc
    have hz10 := hE10 _ _ hzc
    have hr10 := hr9.mono hE10
    have hE11 := hEc.trans hE10
    have bad' : res = (zeroC, 14) → (∃ A cc, Value.tuple #[.agg (cmdC 0 0 0 0 0 0 0 0 0 0 false ⟨#[]⟩ (.slice none 0 0)), .int .i64 14] = .tuple #[aggOf res.1 A cc, .int .i64 res.2] ∧ RowAt F10 A (linesV res.1.ls)) ∧ Ext F F10 := fun e => by
      rw [e]
      exact ⟨⟨none, 0, rfl, RowAt.nil _ _⟩, hE11⟩
    cases bad with
    | true =>
      have hb10 := hb10
      ((conv => whnf); repeat (first | (apply load_at; (conv => lhs; whnf); (with_reducible assumption); rfl; (conv => whnf)) | (apply load_at; (conv => lhs; rw [add_plain, add_plain]); (with_reducible assumption); rfl; (conv => whnf)) | (apply loads_at; (conv => lhs; whnf); (with_reducible assumption); rfl; (conv => whnf)) | (refine ⟨⟨by omega, by omega⟩, ?_⟩; (conv => whnf))))
      refine store_step z 0 _ (cmdC 0 0 0 0 0 0 0 0 0 0 false ⟨#[]⟩ (.slice none 0 0)) rfl hz10 rfl rfl (.inl (Nat.le_refl 0)) zero_ones ?_
      rw [show F10.put z (cmdO 0 0 0 0 0 0 0 0 0 0 false ⟨#[]⟩ (.slice none 0 0)) = F10 from put_back hz10]
      ((conv => whnf); repeat (first | (apply load_at; (conv => lhs; whnf); (with_reducible assumption); rfl; (conv => whnf)) | (apply load_at; (conv => lhs; rw [add_plain, add_plain]); (with_reducible assumption); rfl; (conv => whnf)) | (apply loads_at; (conv => lhs; whnf); (with_reducible assumption); rfl; (conv => whnf)) | (refine ⟨⟨by omega, by omega⟩, ?_⟩; (conv => whnf))))
      refine res_cells tab_ok rfl rfl hz10 rfl ?_
      ((conv => whnf); repeat (first | (apply load_at; (conv => lhs; whnf); (with_reducible assumption); rfl; (conv => whnf)) | (apply load_at; (conv => lhs; rw [add_plain, add_plain]); (with_reducible assumption); rfl; (conv => whnf)) | (apply loads_at; (conv => lhs; whnf); (with_reducible assumption); rfl; (conv => whnf)) | (refine ⟨⟨by omega, by omega⟩, ?_⟩; (conv => whnf))))
      exact bad' hres
    | false =>
      cases more with
      | true =>
        have hb10 := hb10
        ((conv => whnf); repeat (first | (apply load_at; (conv => lhs; whnf); (with_reducible assumption); rfl; (conv => whnf)) | (apply load_at; (conv => lhs; rw [add_plain, add_plain]); (with_reducible assumption); rfl; (conv => whnf)) | (apply loads_at; (conv => lhs; whnf); (with_reducible assumption); rfl; (conv => whnf)) | (refine ⟨⟨by omega, by omega⟩, ?_⟩; (conv => whnf))))
        refine store_step z 0 _ (cmdC 0 0 0 0 0 0 0 0 0 0 false ⟨#[]⟩ (.slice none 0 0)) rfl hz10 rfl rfl (.inl (Nat.le_refl 0)) zero_ones ?_
        rw [show F10.put z (cmdO 0 0 0 0 0 0 0 0 0 0 false ⟨#[]⟩ (.slice none 0 0)) = F10 from put_back hz10]
        ((conv => whnf); repeat (first | (apply load_at; (conv => lhs; whnf); (with_reducible assumption); rfl; (conv => whnf)) | (apply load_at; (conv => lhs; rw [add_plain, add_plain]); (with_reducible assumption); rfl; (conv => whnf)) | (apply loads_at; (conv => lhs; whnf); (with_reducible assumption); rfl; (conv => whnf)) | (refine ⟨⟨by omega, by omega⟩, ?_⟩; (conv => whnf))))
        refine res_cells tab_ok rfl rfl hz10 rfl ?_
        ((conv => whnf); repeat (first | (apply load_at; (conv => lhs; whnf); (with_reducible assumption); rfl; (conv => whnf)) | (apply load_at; (conv => lhs; rw [add_plain, add_plain]); (with_reducible assumption); rfl; (conv => whnf)) | (apply loads_at; (conv => lhs; whnf); (with_reducible assumption); rfl; (conv => whnf)) | (refine ⟨⟨by omega, by omega⟩, ?_⟩; (conv => whnf))))
        exact bad' hres
      | false =>
        cases q with
        | false =>
          have hb10 := hb10
          ((conv => whnf); repeat (first | (apply load_at; (conv => lhs; whnf); (with_reducible assumption); rfl; (conv => whnf)) | (apply load_at; (conv => lhs; rw [add_plain, add_plain]); (with_reducible assumption); rfl; (conv => whnf)) | (apply loads_at; (conv => lhs; whnf); (with_reducible assumption); rfl; (conv => whnf)) | (refine ⟨⟨by omega, by omega⟩, ?_⟩; (conv => whnf))))
          refine store_step z 0 _ (cmdC 0 0 0 0 0 0 0 0 0 0 false ⟨#[]⟩ (.slice none 0 0)) rfl hz10 rfl rfl (.inl (Nat.le_refl 0)) zero_ones ?_
          rw [show F10.put z (cmdO 0 0 0 0 0 0 0 0 0 0 false ⟨#[]⟩ (.slice none 0 0)) = F10 from put_back hz10]
          ((conv => whnf); repeat (first | (apply load_at; (conv => lhs; whnf); (with_reducible assumption); rfl; (conv => whnf)) | (apply load_at; (conv => lhs; rw [add_plain, add_plain]); (with_reducible assumption); rfl; (conv => whnf)) | (apply loads_at; (conv => lhs; whnf); (with_reducible assumption); rfl; (conv => whnf)) | (refine ⟨⟨by omega, by omega⟩, ?_⟩; (conv => whnf))))
          refine res_cells tab_ok rfl rfl hz10 rfl ?_
          ((conv => whnf); repeat (first | (apply load_at; (conv => lhs; whnf); (with_reducible assumption); rfl; (conv => whnf)) | (apply load_at; (conv => lhs; rw [add_plain, add_plain]); (with_reducible assumption); rfl; (conv => whnf)) | (apply loads_at; (conv => lhs; whnf); (with_reducible assumption); rfl; (conv => whnf)) | (refine ⟨⟨by omega, by omega⟩, ?_⟩; (conv => whnf))))
          exact bad' hres
        | true =>
          ((conv => whnf); repeat (first | (apply load_at; (conv => lhs; whnf); (with_reducible assumption); rfl; (conv => whnf)) | (apply load_at; (conv => lhs; rw [add_plain, add_plain]); (with_reducible assumption); rfl; (conv => whnf)) | (apply loads_at; (conv => lhs; whnf); (with_reducible assumption); rfl; (conv => whnf)) | (refine ⟨⟨by omega, by omega⟩, ?_⟩; (conv => whnf))))
          refine store_step z 0 _ (cmdC kk y x f o n pp d l a ab ⟨nm.toArray⟩ (.slice A' ls.length cc)) rfl hz10 rfl rfl (.inl (Nat.le_refl 0)) (cmd_ones _ _ _ _ _ _ _ _ _ _ _ _ _ _ _) ?_
          have hz11 := Heap.put_same F10 z (cmdO kk y x f o n pp d l a ab ⟨nm.toArray⟩ (.slice A' ls.length cc))
          have hres : res = (⟨kk, y, x, f, o, n, pp, d, l, a, ab, nm, ls⟩, 0) := hres
          ((conv => whnf); repeat (first | (apply load_at; (conv => lhs; whnf); (with_reducible assumption); rfl; (conv => whnf)) | (apply load_at; (conv => lhs; rw [add_plain, add_plain]); (with_reducible assumption); rfl; (conv => whnf)) | (apply loads_at; (conv => lhs; whnf); (with_reducible assumption); rfl; (conv => whnf)) | (refine ⟨⟨by omega, by omega⟩, ?_⟩; (conv => whnf))))
          refine res_cells tab_ok rfl rfl hz11 rfl ?_
          ((conv => whnf); repeat (first | (apply load_at; (conv => lhs; whnf); (with_reducible assumption); rfl; (conv => whnf)) | (apply load_at; (conv => lhs; rw [add_plain, add_plain]); (with_reducible assumption); rfl; (conv => whnf)) | (apply loads_at; (conv => lhs; whnf); (with_reducible assumption); rfl; (conv => whnf)) | (refine ⟨⟨by omega, by omega⟩, ?_⟩; (conv => whnf))))
          rw [hres]
          refine ⟨⟨A', cc, rfl, ?_⟩, ?_⟩
          · have hmz : Keeps F10 (F10.put z (cmdO kk y x f o n pp d l a ab ⟨nm.toArray⟩ (.slice A' ls.length cc))) (some z) := Keeps.put _ _ _
            exact rowAt_keepq hr10 hmz hrz
          · exact fun u o hu => by
              rw [Heap.put_other F10 _ (fun e => by rw [e, h0_z] at hu; cases hu)]
              exact hE11 u o hu
end Go.Proofs.Ytbgijjoemnfnmaa.Al

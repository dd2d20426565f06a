/- The logic of a known part of memory, 4: the operations that look at no memory do what is told of them. It holds for every program. -/
import Derived.Test.YtlkdbmoocajjlaaAlOps
namespace Go.Al
open Go

theorem opW_v {P : Program} {o : Oper} {ev : Operand → Value} {s : Sem Value} (hs : execOp ev o = (do pure (.value (← s)))) {F : Heap} {K : Value → Heap → Prop} (h : wk P s F K) : opW P o ev F K :=
  opW_wk (by rw [hs, wk_bind]; exact h)
/-- The operation hands back v, whatever is known of memory, and changes nothing. -/
abbrev Still (P : Program) (o : Oper) (ev : Operand → Value) (v : Value) : Prop := ∀ F, opW P o ev F (fun u F' => u = v ∧ F' = F)
theorem still_of {P : Program} {o : Oper} {ev : Operand → Value} {s : Sem Value} {v : Value} (hs : execOp ev o = (do pure (.value (← s)))) (h : ∀ F, wk P s F (fun u F' => u = v ∧ F' = F)) : Still P o ev v := fun F => opW_v hs (h F)
theorem still_pure {P : Program} {o : Oper} {ev : Operand → Value} {v : Value} (hs : execOp ev o = pure (.value v)) : Still P o ev v := fun F => opW_wk (by rw [hs]; exact ⟨rfl, rfl⟩)

theorem cond_of {b : Bool} {p : Prop} (h : bif b then p else False) : b = true ∧ p := by cases b <;> first | exact h.elim | exact ⟨rfl, h⟩
theorem intK_sound {P : Program} {op : BinOp} {t : TypeId} {k k' : IntKind} {a b : Int} {K : Value → Prop} (h : intK op k k' a b K) :
    ∃ v, K v ∧ ∀ F, wk P (binOp op t (.int k a) (.int k' b)) F (fun u F' => u = v ∧ F' = F) := by
  cases op <;> simp only [intK] at h
  case shl => obtain ⟨h0, h⟩ := h; exact ⟨_, h, fun F => by simp only [binOp, Op.shift, if_neg (Int.not_lt.2 h0)]; exact ⟨rfl, rfl⟩⟩
  case shr => obtain ⟨h0, h⟩ := h; exact ⟨_, h, fun F => by simp only [binOp, Op.shift, if_neg (Int.not_lt.2 h0)]; exact ⟨rfl, rfl⟩⟩
  case quo =>
    obtain ⟨hk, hb, h'⟩ := cond_of h
    obtain rfl := kEq_eq hk
    exact ⟨_, h', fun F => by simp only [binOp, ne_eq, not_true, if_false, Op.intDiv, if_neg hb]; exact ⟨rfl, rfl⟩⟩
  case rem =>
    obtain ⟨hk, hb, h'⟩ := cond_of h
    obtain rfl := kEq_eq hk
    exact ⟨_, h', fun F => by simp only [binOp, ne_eq, not_true, if_false, Op.intDiv, if_neg hb]; exact ⟨rfl, rfl⟩⟩
  all_goals
    obtain ⟨hk, h'⟩ := cond_of h
    clear h
    obtain rfl := kEq_eq hk
    refine ⟨_, h', fun F => ?_⟩
    simp only [binOp, ne_eq, not_true, if_false]
    exact ⟨rfl, rfl⟩
theorem strK_sound {P : Program} {op : BinOp} {t : TypeId} {a b : ByteArray} {K : Value → Prop} (h : strK op a b K) :
    ∃ v, K v ∧ ∀ F, wk P (binOp op t (.string a) (.string b)) F (fun u F' => u = v ∧ F' = F) := by
  cases op <;> simp only [strK] at h
  case add =>
    obtain ⟨h0, h⟩ := h
    refine ⟨_, h, fun F => ?_⟩
    have hm : (IntKind.i64.max : Int) = 9223372036854775807 := by decide
    simp only [binOp, Op.stringOp]
    rw [if_neg (by rw [hm]; omega)]
    exact ⟨rfl, rfl⟩
  case eql => exact ⟨_, h, fun F => ⟨rfl, rfl⟩⟩
  case neq => exact ⟨_, h, fun F => ⟨rfl, rfl⟩⟩
  case lss => exact ⟨_, h, fun F => ⟨rfl, rfl⟩⟩
  case geq => exact ⟨_, h, fun F => ⟨rfl, rfl⟩⟩
theorem eqK_sound {P : Program} {op : BinOp} {t : TypeId} {x y : Value} {b : Bool} {K : Value → Prop} (h : eqK op b K)
    (h1 : binOp .eql t x y = (do pure (.bool (← Op.equal t x y)))) (h2 : binOp .neq t x y = (do pure (.bool (!(← Op.equal t x y))))) (he : ∀ F, wk P (Op.equal t x y) F (fun u F' => u = b ∧ F' = F)) :
    ∃ v, K v ∧ ∀ F, wk P (binOp op t x y) F (fun u F' => u = v ∧ F' = F) := by
  cases op <;> simp only [eqK] at h
  case eql => exact ⟨_, h, fun F => by rw [h1, wk_bind]; exact wk_mono (he F) fun u F' ⟨e1, e2⟩ => by subst e1; exact ⟨rfl, e2⟩⟩
  case neq => exact ⟨_, h, fun F => by rw [h2, wk_bind]; exact wk_mono (he F) fun u F' ⟨e1, e2⟩ => by subst e1; exact ⟨rfl, e2⟩⟩
theorem isBoolT_of {P : Program} {T : Tab} (hT : TabOk P T) {t : TypeId} (h : isBoolT T t = true) : P.underlying t = some .bool := by
  unfold isBoolT at h
  cases e : T t with
  | none => rw [e] at h; cases h
  | some d =>
    rw [e] at h
    have := (hT _ _ e).1
    obtain ⟨s1, s2, dd, zz⟩ := d
    cases dd <;> first | exact this | cases h
theorem isSliceT_of {P : Program} {T : Tab} (hT : TabOk P T) {t : TypeId} (h : isSliceT T t = true) : ∃ e, P.underlying t = some (.slice e) := by
  unfold isSliceT at h
  cases e : T t with
  | none => rw [e] at h; cases h
  | some d =>
    rw [e] at h
    have := (hT _ _ e).1
    obtain ⟨s1, s2, dd, zz⟩ := d
    cases dd <;> first | exact ⟨_, this⟩ | cases h
theorem isPtrT_of {P : Program} {T : Tab} (hT : TabOk P T) {t : TypeId} (h : isPtrT T t = true) : ∃ e, P.underlying t = some (.pointer e) := by
  unfold isPtrT at h
  cases e : T t with
  | none => rw [e] at h; cases h
  | some d =>
    rw [e] at h
    have := (hT _ _ e).1
    obtain ⟨s1, s2, dd, zz⟩ := d
    cases dd <;> first | exact ⟨_, this⟩ | cases h
theorem guardK {P : Program} {op : BinOp} {t : TypeId} {x y : Value} (h1 : ¬ (x = .nilIface ∧ y = .nilIface)) (h2 : ∀ c d, ¬ (x = .agg c ∧ y = .agg d)) (a b : Operand) (F : Heap) : wk P (eqGuard op t a b x y) F (fun _ F' => F' = F) := by
  cases op
  case eql | neq =>
    unfold eqGuard
    rw [if_neg (by decide)]
    cases x <;> first
      | exact (rfl : F = F)
      | (cases y <;> first | exact (rfl : F = F) | exact absurd ⟨rfl, rfl⟩ h1 | exact absurd ⟨rfl, rfl⟩ (h2 _ _))
  all_goals exact (rfl : F = F)
theorem wk_eqB {P : Program} {t : TypeId} (hu : P.underlying t = some .bool) (d : Nat) (a b : Bool) (F : Heap) : wk P (Op.equalIn (d + 1) t (.bool a) (.bool b)) F (fun u F' => u = (a == b) ∧ F' = F) := by
  simp only [Op.equalIn, wk_bind, wk_underlying hu]
  exact ⟨rfl, rfl⟩
theorem wk_eqS {P : Program} {t e : TypeId} (hu : P.underlying t = some (.slice e)) (d : Nat) (a : Option Addr) (n c m k : Nat) (F : Heap) : wk P (Op.equalIn (d + 1) t (.slice a n c) (.slice none m k)) F (fun u F' => u = a.isNone ∧ F' = F) := by
  simp only [Op.equalIn, wk_bind, wk_underlying hu]
  cases a <;> exact ⟨rfl, rfl⟩
theorem wk_eqP {P : Program} {t e : TypeId} (hu : P.underlying t = some (.pointer e)) (d : Nat) (a : Option Addr) (F : Heap) : wk P (Op.equalIn (d + 1) t (.pointer a) (.pointer none)) F (fun u F' => u = a.isNone ∧ F' = F) := by
  simp only [Op.equalIn, wk_bind, wk_underlying hu]
  cases a <;> exact ⟨rfl, rfl⟩
theorem binK_sound {P : Program} {T : Tab} (hT : TabOk P T) {op : BinOp} {t : TypeId} {x y : Value} {K : Value → Prop} (h : binK T op t x y K) :
    (∃ v, K v ∧ (∀ F, wk P (binOp op t x y) F (fun u F' => u = v ∧ F' = F))) ∧ (∀ a b F, wk P (eqGuard op t a b x y) F (fun _ F' => F' = F)) := by
  unfold binK at h
  split at h
  · exact ⟨intK_sound h, guardK (fun e => by cases e.1) (fun _ _ e => by cases e.1)⟩
  · exact ⟨strK_sound h, guardK (fun e => by cases e.1) (fun _ _ e => by cases e.1)⟩
  · next a b =>
    obtain ⟨hb, h⟩ := cond_of h
    have hu := isBoolT_of hT hb
    exact ⟨eqK_sound h rfl rfl fun F => wk_eqB hu 9999 a b F, guardK (fun e => by cases e.1) (fun _ _ e => by cases e.1)⟩
  · next a n c m d =>
    obtain ⟨hb, h⟩ := cond_of h
    obtain ⟨e, hu⟩ := isSliceT_of hT hb
    exact ⟨eqK_sound h (by cases a <;> rfl) (by cases a <;> rfl) fun F => wk_eqS hu 9999 a n c m d F, guardK (fun e => by cases e.1) (fun _ _ e => by cases e.1)⟩
  · next a =>
    obtain ⟨hb, h⟩ := cond_of h
    obtain ⟨e, hu⟩ := isPtrT_of hT hb
    exact ⟨eqK_sound h (by cases a <;> rfl) (by cases a <;> rfl) fun F => wk_eqP hu 9999 a F, guardK (fun e => by cases e.1) (fun _ _ e => by cases e.1)⟩
  · exact h.elim

theorem partK_sound {P : Program} {T : Tab} (hT : TabOk P T) {t : TypeId} {cs : Array Value} {off : Nat} {K : Value → Prop} (h : partK T t cs off K) : ∃ v, K v ∧ ∀ F, wk P (part t cs off) F (fun u F' => u = v ∧ F' = F) := by
  unfold partK at h
  split at h
  case h_2 => exact h.elim
  case h_1 d ht =>
    obtain ⟨hu, i, hi, hs, _, _⟩ := hT _ _ ht
    cases ha : aggD d.desc with
    | true =>
      rw [ha, cond_true] at h
      exact ⟨_, h, fun F => by simp only [part, wk_bind, wk_isAgg hu, ha, if_true, wk_sizeOf hi, hs, wk_pure, and_self]⟩
    | false =>
      rw [ha, cond_false] at h
      unfold getK at h
      split at h
      case h_2 => exact h.elim
      case h_1 v hv => exact ⟨_, h, fun F => by simp only [part, wk_bind, wk_isAgg hu, ha, Bool.false_eq_true, if_false, hv, wk_pure, and_self]⟩
theorem hasT_some {T : Tab} {t : TypeId} (h : hasT T t = true) : ∃ d, T t = some d ∧ sizeK T t = d.size := by
  unfold hasT at h
  unfold sizeK
  cases e : T t with
  | none => rw [e] at h; cases h
  | some d => exact ⟨d, rfl, rfl⟩
theorem wk_sliceBound {P : Program} {F : Heap} {k : IntKind} {i : Int} {y : Nat} {code : BoundsCode} (h : 0 ≤ i ∧ i ≤ y) (K : Nat → Heap → Prop) : wk P (Instr.sliceBound (.int k i) y code) F K ↔ K i.toNat F := by
  unfold Instr.sliceBound
  simp only [asIntOf, wk_bind, wk_pure]
  rw [if_pos h, wk_pure]
theorem boundK_some {v : Value} {y d : Nat} {K : Nat → Prop} (h : boundK (some v) y d K) : ∃ k i, v = .int k i ∧ (0 ≤ i ∧ i ≤ y) ∧ K i.toNat := by
  cases v <;> first | exact ⟨_, _, rfl, h⟩ | exact (h : False).elim
/-- The bounds of a cut. -/
theorem bounds_sound {P : Program} {isSlice : Bool} {len cap : Nat} {lo hi mx : Option Value} {L : Nat → Nat → Nat → Prop} (hmh : ∀ v, mx = some v → hi ≠ none)
    (h : boundK mx cap cap fun m => boundK hi m len fun h => boundK lo h 0 fun l => L l h m) : ∃ l h m, L l h m ∧ ∀ F (K : Nat × Nat × Nat → Heap → Prop), wk P (Instr.sliceBounds isSlice len cap lo hi mx) F K ↔ K (l, h, m) F := by
  have fin : ∀ l hh m, L l hh m → (∀ F (K : Nat × Nat × Nat → Heap → Prop), wk P (Instr.sliceBounds isSlice len cap lo hi mx) F K ↔ K (l, hh, m) F) → ∃ l h m, L l h m ∧ ∀ F (K : Nat × Nat × Nat → Heap → Prop), wk P (Instr.sliceBounds isSlice len cap lo hi mx) F K ↔ K (l, h, m) F := fun l hh m h1 h2 => ⟨l, hh, m, h1, h2⟩
  cases mx with
  | none =>
    replace h : boundK hi cap len fun h => boundK lo h 0 fun l => L l h cap := h
    cases hi with
    | none =>
      replace h : boundK lo len 0 fun l => L l len cap := h
      cases lo with
      | none => exact fin 0 len cap h (fun F K => Iff.rfl)
      | some v =>
        obtain ⟨k, i, rfl, hb, h⟩ := boundK_some h
        exact fin i.toNat len cap h (fun F K => by simp only [Instr.sliceBounds, wk_bind, wk_pure, wk_sliceBound hb])
    | some v =>
      obtain ⟨k, i, rfl, hb, h⟩ := boundK_some h
      cases lo with
      | none => exact fin 0 i.toNat cap h (fun F K => by simp only [Instr.sliceBounds, wk_bind, wk_pure, wk_sliceBound hb])
      | some v =>
        obtain ⟨k', i', rfl, hb', h⟩ := boundK_some h
        exact fin i'.toNat i.toNat cap h (fun F K => by simp only [Instr.sliceBounds, wk_bind, wk_pure, wk_sliceBound hb, wk_sliceBound hb'])
  | some v =>
    obtain ⟨k0, i0, rfl, hb0, h⟩ := boundK_some h
    cases hi with
    | none => exact (hmh _ rfl rfl).elim
    | some v =>
      obtain ⟨k, i, rfl, hb, h⟩ := boundK_some h
      cases lo with
      | none => exact fin 0 i.toNat i0.toNat h (fun F K => by simp only [Instr.sliceBounds, wk_bind, wk_pure, wk_sliceBound hb0, wk_sliceBound hb])
      | some v =>
        obtain ⟨k', i', rfl, hb', h⟩ := boundK_some h
        exact fin i'.toNat i.toNat i0.toNat h (fun F K => by simp only [Instr.sliceBounds, wk_bind, wk_pure, wk_sliceBound hb0, wk_sliceBound hb, wk_sliceBound hb'])
theorem sliceK_sound {P : Program} {T : Tab} (hT : TabOk P T) {t : TypeId} {x : Value} {lo hi mx : Option Value} {K : Value → Prop} (h : sliceK T t x lo hi mx K) : ∃ v, K v ∧ ∀ F, wk P (Instr.sliceAt t x lo hi mx) F (fun u F' => u = v ∧ F' = F) := by
  unfold sliceK at h
  split at h
  · next s_ b_ z s ht =>
    obtain ⟨hu, _⟩ := hT _ _ ht
    split at h
    case h_2 => exact h.elim
    case h_1 =>
      obtain ⟨l, hh, m, h1, h2⟩ := bounds_sound (P := P) (isSlice := false) (mx := none) (cap := s.size) (L := fun l h _ => K (.string (s.extract l h))) (fun v e => by cases e) h
      refine ⟨_, h1, fun F => ?_⟩
      simp only [Instr.sliceAt, wk_bind, wk_underlying hu, Instr.slice, Option.isSome_none, Bool.false_eq_true, if_false]
      exact (h2 F _).2 ⟨rfl, rfl⟩
  · next s_ b_ e z a len cap ht =>
    obtain ⟨hu, _⟩ := hT _ _ ht
    obtain ⟨he, h⟩ := cond_of h
    obtain ⟨d, hd, hs⟩ := hasT_some he
    obtain ⟨_, ie, hie, hsz, _⟩ := hT _ _ hd
    have go : (boundK mx cap cap fun m => boundK hi m len fun h => boundK lo h 0 fun l => K (.slice (if m = l then a else a.map (·.add (l * sizeK T e))) (h - l) (m - l))) → (∀ v, mx = some v → hi ≠ none) →
        ∃ v, K v ∧ ∀ F, wk P (Instr.sliceAt t (.slice a len cap) lo hi mx) F (fun u F' => u = v ∧ F' = F) := by
      intro h hm
      obtain ⟨l, hh, m, h1, h2⟩ := bounds_sound (P := P) (isSlice := true) (L := fun l h m => K (.slice (if m = l then a else a.map (·.add (l * sizeK T e))) (h - l) (m - l))) hm h
      refine ⟨_, h1, fun F => ?_⟩
      simp only [Instr.sliceAt, wk_bind, wk_underlying hu, Instr.slice]
      refine (h2 F _).2 ?_
      simp only [wk_sizeOf hie, wk_pure, hsz, hs, and_self]
    split at h
    · exact h.elim
    · next hne => exact go h (fun v e1 e2 => hne v e1 e2)
  · exact h.elim
theorem valK_sound {P : Program} {T : Tab} (hT : TabOk P T) {o : Oper} {op : Op} (ho : o.op = op) {ev : Operand → Value} {K : Value → Prop} (h : valK T op ev K) : ∃ v, K v ∧ Still P o ev v := by
  cases op
  case move x =>
    simp only [valK] at h
    exact ⟨_, h, still_pure (by simp only [execOp, ho])⟩
  case assign x =>
    simp only [valK] at h
    exact ⟨_, h, still_pure (by simp only [execOp, ho])⟩
  case pick c a b =>
    simp only [valK] at h
    split at h
    · next t e => exact ⟨_, h, fun F => opW_wk (by simp only [execOp, ho, wk_bind, e, asBool, wk_pure]; exact ⟨rfl, rfl⟩)⟩
    · exact h.elim
  case binOp op t x y yt =>
    simp only [valK] at h
    obtain ⟨⟨v, hv, h1⟩, h2⟩ := binK_sound hT h
    refine ⟨v, hv, still_of (s := (do eqGuard op t x y (ev x) (ev y); binOp op t (ev x) (ev y))) (by simp only [execOp, ho]) fun F => ?_⟩
    rw [wk_bind]
    exact wk_mono (h2 x y F) fun _ F' e => by subst e; exact h1 F'
  case unOp op t x =>
    simp only [valK] at h
    refine ?_
    unfold unK at h
    split at h
    · next b e => exact ⟨_, h, still_of (s := Op.unary .not (ev x)) (by simp only [execOp, ho]) fun F => by rw [e]; exact ⟨rfl, rfl⟩⟩
    · next k n e => exact ⟨_, h, still_of (s := Op.unary .neg (ev x)) (by simp only [execOp, ho]) fun F => by rw [e]; exact ⟨rfl, rfl⟩⟩
    · exact h.elim
  case convert src dst x =>
    simp only [valK] at h
    unfold convK at h
    split at h
    case h_2 => exact h.elim
    case h_1 ds d h1 h2 =>
      obtain ⟨hu1, _⟩ := hT _ _ h1
      obtain ⟨hu2, _⟩ := hT _ _ h2
      split at h
      · next k k' n e1 e2 =>
        refine ⟨_, h, still_of (s := convert src dst (ev x)) (by simp only [execOp, ho]) fun F => ?_⟩
        simp only [convert, wk_bind, wk_underlying hu1, wk_underlying hu2, e1, e2]
        cases ds.desc <;> exact ⟨rfl, rfl⟩
      · next s e1 e2 =>
        refine ⟨_, h, still_of (s := convert src dst (ev x)) (by simp only [execOp, ho]) fun F => ?_⟩
        simp only [convert, wk_bind, wk_underlying hu1, wk_underlying hu2, e1, e2]
        cases ds.desc <;> exact ⟨rfl, rfl⟩
      · exact h.elim
  case extract t i =>
    simp only [valK] at h
    split at h
    case h_2 => exact h.elim
    case h_1 vs e =>
      split at h
      case h_2 => exact h.elim
      case h_1 v hv => exact ⟨_, h, still_of (s := Instr.extract (ev t) i) (by simp only [execOp, ho]) fun F => by rw [e]; simp only [Instr.extract, hv]; exact ⟨rfl, rfl⟩⟩
  case indexAddr t x i =>
    simp only [valK] at h
    split at h
    · next s by_ e z a n c k j ht hx hi =>
      obtain ⟨he, ⟨h0, h1⟩, h⟩ := cond_of h
      obtain ⟨d, hd, hs⟩ := hasT_some he
      obtain ⟨hu, _⟩ := hT _ _ ht
      obtain ⟨_, ie, hie, hsz, _⟩ := hT _ _ hd
      refine ⟨_, h, still_of (s := Instr.indexAt t (ev x) (ev i)) (by simp only [execOp, ho]) fun F => ?_⟩
      simp only [Instr.indexAt, hx, hi, asIntOf, wk_bind, wk_pure, wk_underlying hu]
      rw [if_pos ⟨h0, h1⟩]
      simp only [wk_bind, wk_sizeOf hie, wk_pure, hsz, hs, and_self]
    · next s by_ n e z a k j ht hx hi =>
      obtain ⟨he, ⟨h0, h1⟩, h⟩ := cond_of h
      obtain ⟨d, hd, hs⟩ := hasT_some he
      obtain ⟨hu, _⟩ := hT _ _ ht
      obtain ⟨_, ie, hie, hsz, _⟩ := hT _ _ hd
      refine ⟨_, h, still_of (s := Instr.indexAt t (ev x) (ev i)) (by simp only [execOp, ho]) fun F => ?_⟩
      simp only [Instr.indexAt, hx, hi, asIntOf, wk_bind, wk_pure, wk_underlying hu, Instr.sureAddr]
      rw [if_pos ⟨h0, h1⟩]
      simp only [wk_bind, wk_sizeOf hie, wk_pure, hsz, hs, and_self]
    · exact h.elim
  case index t x i =>
    simp only [valK] at h
    split at h
    · next s_ by_ z s k j ht hx hi =>
      obtain ⟨⟨h0, h1⟩, h⟩ := h
      obtain ⟨hu, _⟩ := hT _ _ ht
      have hlt : j.toNat < s.size := by omega
      have hb : s[j.toNat]? = some s[j.toNat] := by simp [hlt]
      refine ⟨_, h _ hb, still_of (s := Instr.index t (ev x) (ev i)) (by simp only [execOp, ho]) fun F => ?_⟩
      simp only [Instr.index, hx, hi, asIntOf, wk_bind, wk_pure, wk_underlying hu, if_pos h0, hb]
      exact ⟨trivial, trivial⟩
    · next s_ by_ n e z cs k j ht hx hi =>
      obtain ⟨he, ⟨h0, h1⟩, h⟩ := cond_of h
      obtain ⟨d, hd, hs⟩ := hasT_some he
      obtain ⟨hu, _⟩ := hT _ _ ht
      obtain ⟨_, ie, hie, hsz, _⟩ := hT _ _ hd
      obtain ⟨v, hv, hp⟩ := partK_sound hT h
      refine ⟨v, hv, still_of (s := Instr.index t (ev x) (ev i)) (by simp only [execOp, ho]) fun F => ?_⟩
      simp only [Instr.index, hx, hi, asIntOf, wk_bind, wk_pure, wk_underlying hu]
      rw [if_pos ⟨h0, h1⟩]
      simp only [wk_bind, wk_sizeOf hie, hsz]
      rw [hs] at hp
      exact hp F
    · exact h.elim
  case fieldAddr s x f =>
    simp only [valK] at h
    split at h
    · next s_ by_ fs z a ht hx =>
      split at h
      · next fd hf =>
        obtain ⟨he, h⟩ := cond_of h
        obtain ⟨d, hd, hs⟩ := hasT_some he
        obtain ⟨hu, _⟩ := hT _ _ ht
        obtain ⟨_, ie, hie, hsz, _⟩ := hT _ _ hd
        cases hz : Nat.beq (sizeK T fd.type) 0 with
        | true => rw [hz] at h; exact h.elim
        | false =>
          rw [hz, cond_false] at h
          refine ⟨_, h, still_of (s := Instr.fieldAt s (ev x) f) (by simp only [execOp, ho]) fun F => ?_⟩
          have hne : ie.size ≠ 0 := by
            intro e0
            rw [hs, ← hsz, e0] at hz
            cases hz
          simp only [Instr.fieldAt, hx, wk_bind, wk_underlying hu, hf, Instr.sureAddr, wk_pure, fieldPlace, wk_sizeOf hie]
          rw [if_neg hne]
          exact ⟨rfl, rfl⟩
      · exact h.elim
    · exact h.elim
  case field s x f =>
    simp only [valK] at h
    split at h
    · next s_ by_ fs z cs ht hx =>
      split at h
      · next fd hf =>
        obtain ⟨hu, _⟩ := hT _ _ ht
        obtain ⟨v, hv, hp⟩ := partK_sound hT h
        refine ⟨v, hv, still_of (s := Instr.field s (ev x) f) (by simp only [execOp, ho]) fun F => ?_⟩
        simp only [Instr.field, hx, wk_bind, wk_underlying hu, hf, asAgg, wk_pure]
        exact hp F
      · exact h.elim
    · exact h.elim
  case nilCheck x =>
    simp only [valK] at h
    split at h
    · next a e => exact ⟨_, h, fun F => opW_wk (by simp only [execOp, ho, e]; exact ⟨rfl, rfl⟩)⟩
    · exact h.elim
  case makeInterface t x =>
    simp only [valK] at h
    split at h
    · exact h.elim
    · next d hn ht =>
      obtain ⟨hu, _⟩ := hT _ _ ht
      refine ⟨_, h, still_of (s := Instr.makeInterface t (ev x)) (by simp only [execOp, ho]) fun F => ?_⟩
      simp only [Instr.makeInterface, wk_bind, wk_underlying hu]
      obtain ⟨s1, s2, dd, zz⟩ := d
      cases dd <;> first | exact ⟨rfl, rfl⟩ | exact (hn _ _ _ _ rfl).elim
    · exact h.elim
  case slice t x lo hi mx =>
    simp only [valK] at h
    obtain ⟨v, hv, hs⟩ := sliceK_sound hT h
    exact ⟨v, hv, still_of (s := Instr.sliceAt t (ev x) (lo.map ev) (hi.map ev) (mx.map ev)) (by simp only [execOp, ho]) hs⟩
  case makeFunc fn first captured =>
    simp only [valK] at h
    refine ⟨_, h, still_of (s := Instr.makeFunc fn (first.map ev) (captured.map ev)) (by simp only [execOp, ho]) fun F => ?_⟩
    have hm : ∀ l : Array Operand, Array.map ev l = (List.map ev l.toList).toArray := fun l => Array.toList_inj.1 (by simp)
    rw [Instr.makeFunc, hm, hm]
    exact ⟨rfl, rfl⟩
  case call c =>
    obtain ⟨cal, args, ts⟩ := c
    cases cal
    case value f => exact (h : False).elim
    case invoke r m => exact (h : False).elim
    case builtin bi =>
    cases bi
    case len =>
      simp only [valK] at h
      split at h
      · next x t ha hts =>
        obtain rfl : args = #[x] := by rw [← Array.toList_inj]; exact ha
        obtain rfl : ts = #[t] := by rw [← Array.toList_inj]; exact hts
        have hex : execOp ev o = (do pure (.value (← Builtin.len_ #[t] o.type #[ev x]))) := by simp [execOp, ho, resolve, invoke, builtin]
        split at h
        · next s_ by_ z s ht hx =>
          obtain ⟨hu, _⟩ := hT _ _ ht
          exact ⟨_, h, still_of hex fun F => by simp [Builtin.len_, wk_bind, wk_underlying hu, hx, wk_pure, goInt]⟩
        · next s_ by_ e z a n c ht hx =>
          obtain ⟨hu, _⟩ := hT _ _ ht
          exact ⟨_, h, still_of hex fun F => by simp [Builtin.len_, wk_bind, wk_underlying hu, hx, wk_pure, goInt]⟩
        · next s_ by_ n e z ht =>
          obtain ⟨hu, _⟩ := hT _ _ ht
          exact ⟨_, h, still_of hex fun F => by simp [Builtin.len_, wk_bind, wk_underlying hu, wk_pure, goInt]⟩
        · exact h.elim
      · exact h.elim
    case cap =>
      simp only [valK] at h
      split at h
      · next x t ha hts =>
        obtain rfl : args = #[x] := by rw [← Array.toList_inj]; exact ha
        obtain rfl : ts = #[t] := by rw [← Array.toList_inj]; exact hts
        have hex : execOp ev o = (do pure (.value (← Builtin.cap_ #[t] o.type #[ev x]))) := by simp [execOp, ho, resolve, invoke, builtin]
        split at h
        · next s_ by_ e z a n c ht hx =>
          obtain ⟨hu, _⟩ := hT _ _ ht
          exact ⟨_, h, still_of hex fun F => by simp [Builtin.cap_, wk_bind, wk_underlying hu, hx, wk_pure, goInt]⟩
        · exact h.elim
      · exact h.elim
    case min =>
      simp only [valK] at h
      split at h
      · next x y ha =>
        obtain rfl : args = #[x, y] := by rw [← Array.toList_inj]; exact ha
        have hex : execOp ev o = (do pure (.value (← Builtin.min_ ts o.type #[ev x, ev y]))) := by simp [execOp, ho, resolve, invoke, builtin]
        split at h
        · next k a k' b hx hy => exact ⟨_, h, still_of hex fun F => by simp [Builtin.min_, Builtin.min2, hx, hy, wk_pure]⟩
        · exact h.elim
      · exact h.elim
    case max =>
      simp only [valK] at h
      split at h
      · next x y ha =>
        obtain rfl : args = #[x, y] := by rw [← Array.toList_inj]; exact ha
        have hex : execOp ev o = (do pure (.value (← Builtin.max_ ts o.type #[ev x, ev y]))) := by simp [execOp, ho, resolve, invoke, builtin]
        split at h
        · next k a k' b hx hy => exact ⟨_, h, still_of hex fun F => by simp [Builtin.max_, Builtin.max2, hx, hy, wk_pure]⟩
        · exact h.elim
      · exact h.elim
    all_goals exact (h : False).elim
  all_goals exact (h : False).elim
end Go.Al

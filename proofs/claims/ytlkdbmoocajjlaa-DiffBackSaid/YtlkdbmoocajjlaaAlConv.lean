/- The logic of a known part of memory, 5b: texts into bytes and back. It holds for every program. -/
import Derived.Test.YtlkdbmoocajjlaaAlMem
import Derived.Laws.BytesString
import Derived.Laws.IdiomCopy
namespace Go.Al
open Go

def isAggT (T : Tab) (t : TypeId) : Bool := match T t with | some d => aggD d.desc | none => false
def convB (T : Tab) (o : Op) : Bool := match o with | .convert s d _ => isSliceT T s || isSliceT T d | .binOp _ t _ _ _ => isAggT T t | _ => false
/-- An operation in its own order. -/
def stepB (P : Program) (T : Tab) (o : Oper) (ev : Operand → Value) (F : Heap) (K : Value → Heap → Prop) : Prop :=
  bif convB T o.op then OpK P o ev F K else stepK P T o ev F K
theorem stepB_sound {P : Program} {T : Tab} (hT : TabOk P T) {o : Oper} {ev : Operand → Value} {F : Heap} {K : Value → Heap → Prop} (h : stepB P T o ev F K) : opW P o ev F K := by
  unfold stepB at h
  cases hv : convB T o.op with
  | true => rw [hv, cond_true] at h; exact h.out
  | false => rw [hv, cond_false] at h; exact stepK_sound hT h
theorem Heap.put_self (F : Heap) (b : Nat) (o : Obj) : (F.put b o) b = some o := by simp [Heap.put]
/-- A text's bytes, in a row of their own. -/
theorem conv_bytes {P : Program} {T : Tab} (hT : TabOk P T) {o : Oper} {ev : Operand → Value} {F : Heap} {K : Value → Heap → Prop} {src dst e : TypeId} {x : Operand} {s : ByteArray} {ds : TD} {a1 a2 : Nat} {z1 : Option Value} {b1 b2 : Nat} {z2 : Option Value}
    (ho : o.op = .convert src dst x) (hx : ev x = .string s) (h1 : T src = some ds) (h2 : T dst = some ⟨a1, a2, .slice e, z1⟩) (h3 : T e = some ⟨b1, b2, .int .u8, z2⟩)
    (hk : ∀ b cs, F b = none → s.size ≤ cs.size → cs.toList.take s.size = s.data.toList.map (fun b => Value.int .u8 b.toNat) → K (.slice (some ⟨b, 0, none⟩) s.size cs.size) (F.put b (.cells cs e (cs.size, cs.size + 1)))) : OpK P o ev F K := by
  obtain ⟨hu1, _⟩ := hT _ _ h1
  obtain ⟨hu2, _⟩ := hT _ _ h2
  obtain ⟨hu3, _⟩ := hT _ _ h3
  refine ⟨opW_v (s := convert src dst (ev x)) (by simp only [execOp, ho]) ?_⟩
  rw [hx]
  simp only [convert, wk_bind, wk_underlying hu1, wk_underlying hu2]
  have go : wk P (Conv.stringToBytes e s) F K := by
    unfold Conv.stringToBytes
    simp only [wk_bind]
    refine fun nc _ hch => ?_
    obtain ⟨tt, rfl⟩ := hch rfl
    have hge : s.size ≤ Question.cut (.appendCap s.size 0 e) tt := by show s.size ≤ s.size + _; omega
    generalize Question.cut (.appendCap s.size 0 e) tt = nc at hge
    simp only [newRow, wk_bind, wk_pure]
    refine run_new ⟨fun b hb => ?_⟩
    have hs : s.data.size = s.size := rfl
    have hsz : ((s.data.map fun b => Value.int .u8 b.toNat) ++ Array.replicate (nc - s.size) (Value.int .u8 0)).size = nc := by simp [hs]; omega
    have htk : ((s.data.map fun b => Value.int .u8 b.toNat) ++ Array.replicate (nc - s.size) (Value.int .u8 0)).toList.take s.size = s.data.toList.map (fun b => Value.int .u8 b.toNat) := by
      rw [Array.toList_append, List.take_left' (by simp [hs])]
      simp
    generalize ((s.data.map fun b => Value.int .u8 b.toNat) ++ Array.replicate (nc - s.size) (Value.int .u8 0)) = cs at hsz htk
    subst hsz
    simp only [markStringish, wk_bind]
    refine ⟨some (e, cs.size), by simp [Heap.shape?, Heap.put], ?_⟩
    refine ⟨⟨cs, e, (0, 0), Heap.put_self F b _⟩, ?_⟩
    have hf : (F.put b (.cells cs e)).freeze ⟨b, cs.size, none⟩ 1 = F.put b (.cells cs e (cs.size, cs.size + 1)) := by
      funext c
      simp only [Heap.freeze, Heap.put_self]
      by_cases hc : c = b
      · subst hc; simp [Heap.put]
      · simp [Heap.put, hc]
    show K _ ((F.put b (.cells cs e)).freeze ⟨b, cs.size, none⟩ 1)
    rw [hf]
    exact hk b cs hb hge htk
  cases ds.desc <;> (rw [wk_underlying hu3]; exact go)
theorem push_all : ∀ (l : List UInt8) (acc : ByteArray), (l.map fun b => (b.toNat : Int)).foldl (fun r n => r.push (UInt8.ofNat n.toNat)) acc = ⟨acc.data ++ l.toArray⟩ := by
  intro l
  induction l with
  | nil => intro acc; simp
  | cons x l ih =>
    intro acc
    simp only [List.map_cons, List.foldl_cons, ih, Int.toNat_natCast, UInt8.ofNat_toNat]
    congr 1
    apply Array.ext'
    simp [ByteArray.push]
/-- A row's bytes, as a text. -/
theorem conv_str {P : Program} {T : Tab} (hT : TabOk P T) {o : Oper} {ev : Operand → Value} {F : Heap} {K : Value → Heap → Prop} {src dst e : TypeId} {x : Operand} {a : Option Addr} {c : Nat} (l : List UInt8) {a1 a2 : Nat} {z1 : Option Value} {b1 b2 : Nat} {z2 : Option Value} {c1 c2 : Nat} {z3 : Option Value}
    (ho : o.op = .convert src dst x) (hx : ev x = .slice a l.length c) (h1 : T src = some ⟨a1, a2, .slice e, z1⟩) (h2 : T dst = some ⟨c1, c2, .string, z3⟩) (h3 : T e = some ⟨b1, b2, .int .u8, z2⟩)
    (hr : ∀ j (v : Value), (l.map fun b => Value.int .u8 b.toNat)[j]? = some v → ∃ ad, a = some ad ∧ F.cell? (ad.add j) = some v)
    (hk : K (.string ⟨l.toArray⟩) F) : OpK P o ev F K := by
  obtain ⟨hu1, _⟩ := hT _ _ h1
  obtain ⟨hu2, _⟩ := hT _ _ h2
  obtain ⟨hu3, _⟩ := hT _ _ h3
  have hrun : ∀ w, Has F w → (convert src dst (ev x)).run P w = .ok (.string ⟨l.toArray⟩) w := by
    intro w hw
    rw [hx, run_convert_bytes_string w src dst e a _ c hu1 hu3 hu2]
    cases a with
    | none =>
      cases l with
      | nil => rfl
      | cons y l => obtain ⟨_, h, _⟩ := hr 0 _ rfl; cases h
    | some ad =>
      rw [run_bytesToString w ad l.length c (l.map fun b => (b.toNat : Int)) ?_, push_all]
      · rw [show (ByteArray.empty.data : Array UInt8) = #[] from rfl, Array.empty_append]
      · have := run_loadCells_list (P := P) w ad (l.map fun b => Value.int .u8 b.toNat) (fun j v hj => by
          obtain ⟨_, e, h⟩ := hr j v hj
          cases e
          exact hw.cell h)
        rw [List.length_map] at this
        rw [this, List.map_map]
        rfl
  refine ⟨fun w hw => ⟨.value (.string ⟨l.toArray⟩), w, F, ?_, hw, Rest.refl w, hk⟩⟩
  simp only [execOp, ho, Sem.run_bind, hrun w hw, Result.andThen_ok, Sem.run_pure]
end Go.Al

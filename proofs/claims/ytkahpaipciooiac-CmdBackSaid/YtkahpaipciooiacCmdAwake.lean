/- The contract of exchequerplain.Cmds, commands as arguments, and the contract of the laws' awake. -/
import Derived.Test.YtkahpaipciooiacCmdLaw
namespace Go.Proofs.Ytkahpaipciooiac.Al
open Go Go.Al Go.Proofs Go.RowKit
set_option maxHeartbeats 8000000
set_option maxRecDepth 100000
set_option linter.unusedVariables false
set_option linter.unusedSimpArgs false
structure CR where
  c : CD
  B : Option Addr
  cc : Nat
def cmdA (r : CR) : Array Value := cmdC r.c.k r.c.y r.c.x r.c.f r.c.o r.c.n r.c.p r.c.d r.c.l r.c.a r.c.ab ⟨r.c.nm.toArray⟩ (.slice r.B r.c.ls.length r.cc)
def rowsV (rs : List CR) : List Value := rs.flatMap fun r => (cmdA r).toList
def few (r : CR) : Bool := decide (r.c.nm.length ≤ 100) && decide (r.c.ls.length ≤ 20)
theorem rowsV_len (rs : List CR) : (rowsV rs).length = rs.length * 13 := by
  induction rs with
  | nil => rfl
  | cons r rs ih =>
    unfold rowsV at ih ⊢
    rw [List.flatMap_cons, List.length_append, ih, List.length_cons]
    show 13 + _ = _
    omega
theorem rowsV_at : ∀ (rs : List CR) (j : Nat) (x : CR), rs[j]? = some x → ((rowsV rs).drop (j * 13)).take 13 = (cmdA x).toList := by
  intro rs
  induction rs with
  | nil => intro j x h; simp at h
  | cons r rs ih =>
    intro j x h
    unfold rowsV at ih ⊢
    rw [List.flatMap_cons]
    cases j with
    | zero =>
      obtain rfl : r = x := by simpa using h
      rfl
    | succ j =>
      rw [show (j + 1) * 13 = 13 + j * 13 by omega, ← List.drop_drop, List.drop_left' (by rfl)]
      exact ih j x (by simpa using h)
theorem few1 (r : CR) (F : Heap) : FnK Try.prog 46 #[.agg (cmdA r)] F (fun v F' => v = .bool (!few r) ∧ Ext F F') := by
  obtain ⟨⟨k, y, x, f, o, n, p, d, l, a, ab, nm, ls⟩, B, cc⟩ := r
  have hf : few ⟨⟨k, y, x, f, o, n, p, d, l, a, ab, nm, ls⟩, B, cc⟩ = (decide (nm.length ≤ 100) && decide (ls.length ≤ 20)) := rfl
  generalize few ⟨⟨k, y, x, f, o, n, p, d, l, a, ab, nm, ls⟩, B, cc⟩ = q at hf
  (refine fn_walk tab_ok Try.func46 rfl rfl rfl rfl ?_; (conv => whnf))
  refine new_step (cmdO k y x f o n p d l a ab ⟨nm.toArray⟩ (.slice B ls.length cc)) rfl fun b hb => ?_
  have hE := Ext.new hb (cmdO k y x f o n p d l a ab ⟨nm.toArray⟩ (.slice B ls.length cc))
  have hB := Heap.put_same F b (cmdO k y x f o n p d l a ab ⟨nm.toArray⟩ (.slice B ls.length cc))
  generalize F.put b _ = F1 at hE hB ⊢
  (conv => whnf)
  refine load_blk hB rfl rfl ?_
  (conv => whnf)
  refine cond_split (fun h => ?_) (fun h => ?_)
  · have h : (!decide (((nm.length : Nat) : Int) > 100)) = true := h
    have h1 : nm.length ≤ 100 := by simp at h; omega
    (conv => whnf)
    refine load_blk hB rfl rfl ?_
    (conv => whnf)
    refine ⟨congrArg Value.bool ?_, hE⟩
    show decide (((ls.length : Nat) : Int) > 20) = !q
    rw [hf, decide_eq_true h1, Bool.true_and, Bool.eq_iff_iff]
    simp
    omega
  · have h : (!decide (((nm.length : Nat) : Int) > 100)) = false := h
    have h1 : ¬ nm.length ≤ 100 := by simp at h; omega
    (conv => whnf)
    refine ⟨congrArg Value.bool ?_, hE⟩
    rw [hf, decide_eq_false h1]
    rfl
theorem indexC (rs : List CR) (A : Option Addr) (c : Nat) (F : Heap) (hr : RowAt F A (rowsV rs)) (hl : rs.length ≤ 1000) :
    FnK Try.prog 60 #[.slice A rs.length c, .func (.func 46) #[] #[]] F (fun v F' => (∃ r : Int, v = .int .i64 r ∧ decide (r ≥ 0) = !rs.all few) ∧ Ext F F') := by
  (refine fn_walk tab_ok Try.func60 rfl rfl rfl rfl ?_; (conv => whnf))
  refine loop_slots [0, 1, 7, 8] (fun k vs F' => ∃ j : Nat, j + k = rs.length ∧ vs = [.slice A rs.length c, .func (.func 46) #[] #[], .int .i64 (rs.length : Int), .int .i64 (j : Int)] ∧ (rs.take j).all few = true ∧ Ext F F') rs.length ⟨0, by omega, rfl, rfl, Ext.refl F⟩ ?_
  rintro k vs F2 ρ ⟨j, hjk, rfl, hall, hE2⟩
  (conv => whnf)
  refine cond_split (fun h => ?_) (fun h => ?_)
  · have hj : j < rs.length := by have := of_decide_eq_true h; omega
    obtain ⟨ad, rfl⟩ := hr.some (by rw [rowsV_len]; omega)
    have hx : rs[j]? = some rs[j] := List.getElem?_eq_getElem hj
    have hf := few1 rs[j]
    have hz : (rs.take (j + 1)).all few = few rs[j] := by
      rw [List.take_add_one, hx, List.all_append, hall]
      simp
    have hz2 : few rs[j] = false → rs.all few = false := fun e => by
      rw [← Bool.not_eq_true, List.all_eq_true]
      intro h
      rw [h _ (List.getElem_mem hj)] at e
      cases e
    have hL : ∀ K : Value → Prop, K (.agg (cmdA rs[j])) → LoadsK F2 (ad.add (Int.toNat (j : Int) * 13)) 13 K := fun K hk => by
      rw [Int.toNat_natCast]
      refine loads_row (hr.mono hE2) (by decide) (by rw [rowsV_len]; omega) ?_
      rw [rowsV_at rs j _ hx]
      exact hk
    generalize few rs[j] = z at hf hz hz2
    generalize rs[j] = r at hf hL
    (conv => whnf)
    refine ⟨⟨by omega, by omega⟩, ?_⟩
    (conv => whnf)
    refine hL _ ?_
    (conv => whnf)
    refine call_of (hf F2) ?_
    rintro v F3 ⟨rfl, hE3⟩
    replace hE3 := hE2.trans hE3
    cases z with
    | false =>
      have := hz2 rfl
      (conv => whnf)
      refine ⟨⟨(j : Int), rfl, ?_⟩, hE3⟩
      rw [this]
      simp
    | true =>
      (conv => whnf)
      refine ⟨k - 1, by omega, j + 1, by omega, ?_, hz, hE3⟩
      have hw : IntKind.i64.wrap ((j : Int) + 1) = ((j + 1 : Nat) : Int) := by rw [IntKind.wrap_i64]; omega
      rw [← hw]
      rfl
  · have hj : j = rs.length := by have := of_decide_eq_false h; omega
    subst hj
    rw [List.take_length] at hall
    (conv => whnf)
    exact ⟨⟨-1, rfl, by rw [hall]; rfl⟩, hE2⟩
theorem cmds (rs : List CR) (A : Option Addr) (c many : Nat) (F : Heap) (hr : RowAt F A (rowsV rs)) (hl : rs.length ≤ many) (hm : many ≤ 1000) :
    FnK Try.prog 23 #[.slice A rs.length c, .int .i64 (many : Int)] F (fun v F' => v = .bool (rs.all few) ∧ Ext F F') := by
  have hi := indexC rs A c F hr (by omega)
  have hc : FnK Try.prog 45 #[.slice A rs.length c, .func (.func 46) #[] #[]] F (fun v F' => v = .bool (!rs.all few) ∧ Ext F F') := by
    (refine fn_walk tab_ok Try.func45 rfl rfl rfl rfl ?_; (conv => whnf))
    refine call_of hi ?_
    rintro v F1 ⟨⟨r, rfl, hr'⟩, hE⟩
    (conv => whnf)
    exact ⟨congrArg Value.bool hr', hE⟩
  generalize rs.all few = z at hc
  (refine fn_walk tab_ok Try.func23 rfl rfl rfl rfl ?_; (conv => whnf))
  refine cond_split (fun h => ?_) (fun h => ?_)
  · (conv => whnf)
    refine call_of hc ?_
    rintro v F1 ⟨rfl, hE⟩
    (conv => whnf)
    exact ⟨congrArg Value.bool (Bool.not_not z), hE⟩
  · have h : decide ((rs.length : Int) ≤ (many : Int)) = false := h
    have := of_decide_eq_false h
    omega
/-- A command as an argument. -/
theorem cmd_open {F : Heap} {x : Int × Int × Int × Int × Int × Int × Int × Int × Int × Int × Bool × ByteArray × List (Int × Int × Int × Int)} {cs : Array Value}
    (h : (kPair 1 (kInt .i64) (kPair 1 (kInt .i64) (kPair 1 (kInt .i64) (kPair 1 (kInt .i64) (kPair 1 (kInt .i64) (kPair 1 (kInt .i64) (kPair 1 (kInt .i64) (kPair 1 (kInt .i64) (kPair 1 (kInt .i64) (kPair 1 (kInt .i64) (kPair 1 kBool (kPair 1 kStr (kSlice 4 (kPair 1 (kInt .i64) (kPair 1 (kInt .i64) (kPair 1 (kInt .i64) (kInt .i64))))))))))))))))) F x cs.toList) :
    ∃ (r : CR), cs = cmdA r ∧ RowAt F r.B (linesV r.c.ls) ∧ r.c.a = x.2.2.2.2.2.2.2.2.2.1 ∧ r.c.ls = x.2.2.2.2.2.2.2.2.2.2.2.2.map (fun q => ⟨q.1, q.2.1, q.2.2.1, q.2.2.2⟩) := by
  obtain ⟨c1, d1, e1, _, rfl, c2, d2, rfl, _, rfl, c3, d3, rfl, _, rfl, c4, d4, rfl, _, rfl, c5, d5, rfl, _, rfl, c6, d6, rfl, _, rfl, c7, d7, rfl, _, rfl, c8, d8, rfl, _, rfl, c9, d9, rfl, _, rfl, c10, d10, rfl, _, rfl, c11, d11, rfl, _, rfl, c12, d12, rfl, _, rfl, A, c, rfl, _, hel⟩ := h
  obtain ⟨k, y, xx, f, o, n, p, d, l, a, ab, nm, ls⟩ := x
  refine ⟨⟨⟨k, y, xx, f, o, n, p, d, l, a, ab, nm.data.toList, ls.map (fun q => ⟨q.1, q.2.1, q.2.2.1, q.2.2.2⟩)⟩, A, c⟩, ?_, ?_, rfl, rfl⟩
  · apply Array.ext'
    rw [e1]
    simp [cmdA, cmdC]
  · intro j v hj
    have hlt : j < (linesV (ls.map (fun q => (⟨q.1, q.2.1, q.2.2.1, q.2.2.2⟩ : LD)))).length := (List.getElem?_eq_some_iff.1 hj).1
    rw [linesV_len, List.length_map] at hlt
    have hq : j / 4 < ls.length := by omega
    obtain ⟨a', c', h1, h2, h3, h4⟩ := hel (j / 4) _ (List.getElem?_eq_getElem hq)
    have hx : (ls.map (fun q => (⟨q.1, q.2.1, q.2.2.1, q.2.2.2⟩ : LD)))[j / 4]? = some ⟨ls[j / 4].1, ls[j / 4].2.1, ls[j / 4].2.2.1, ls[j / 4].2.2.2⟩ := by
      rw [List.getElem?_map, List.getElem?_eq_getElem hq]; rfl
    have hat := linesV_at _ _ _ hx
    obtain ⟨u1, v1, rfl, _, rfl, u2, v2, rfl, _, rfl, u3, v3, rfl, _, rfl, rfl⟩ := h3
    refine ⟨a', h1, ?_⟩
    have hj2 : (lineV ⟨ls[j / 4].1, ls[j / 4].2.1, ls[j / 4].2.2.1, ls[j / 4].2.2.2⟩)[j % 4]? = some v := by
      rw [← hat, List.getElem?_take, if_pos (by omega), List.getElem?_drop, show j / 4 * 4 + j % 4 = j by omega]
      exact hj
    have := h4 (j % 4) v hj2
    rwa [show j / 4 * 4 + j % 4 = j by omega] at this
end Go.Proofs.Ytkahpaipciooiac.Al

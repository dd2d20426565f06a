/- The contracts of cmd.may and of its reference, over what is known of memory. -/
import Derived.Test.YtkahpaipciooiacCmdA
namespace Go.Proofs.Ytkahpaipciooiac.Al
open Go Go.Al Go.Proofs Go.RowKit
set_option maxHeartbeats 8000000
set_option maxRecDepth 100000
set_option linter.unusedVariables false
set_option linter.unusedSimpArgs false
def lineOk (l : LD) : Bool := ([l.f, l.o, l.n] : List Int).all (inM 2)
def mayB (c : CD) : Bool := knownB c.k && (decide (c.nm.length ≤ 255) && (decide (c.ls.length ≤ 255) && (([c.y, c.x, c.f, c.o, c.n, c.p] : List Int).all (inM 2) && (([c.d] : List Int).all (inM 4) && (([c.l] : List Int).all (inM 1) && c.ls.all lineOk)))))
theorem mayB_iff (c : CD) : mayB c = true ↔ knownB c.k = true ∧ c.nm.length ≤ 255 ∧ c.ls.length ≤ 255 ∧ ([c.y, c.x, c.f, c.o, c.n, c.p] : List Int).all (inM 2) = true ∧ ([c.d] : List Int).all (inM 4) = true ∧ ([c.l] : List Int).all (inM 1) = true ∧ c.ls.all lineOk = true := by
  unfold mayB
  simp only [Bool.and_eq_true, decide_eq_true_eq]
theorem row_new {F : Heap} {g : Nat} {l : List Int} (h : F g = some (.cells (l.map (Value.int .i64)).toArray 3)) : RowAt F (some ⟨g, 0, none⟩) (l.map (.int .i64)) := fun j v hj => ⟨_, rfl, by
  rw [add_plain, Heap.cell_at h, Nat.zero_add]
  simpa using hj⟩
abbrev lineO (f o n a : Int) : Obj := .cells #[.int .i64 f, .int .i64 o, .int .i64 n, .int .i64 a] 59
abbrev cmdO (k y x f o n p d l a : Int) (ab : Bool) (nm : ByteArray) (S : Value) : Obj := .cells (cmdC k y x f o n p d l a ab nm S) 38
theorem line_load {F : Heap} {ad : Addr} {ls : List LD} {j : Nat} {K : Value → Prop} (hr : RowAt F (some ad) (linesV ls)) (hj : j < ls.length) (hk : K (.agg #[.int .i64 ls[j].f, .int .i64 ls[j].o, .int .i64 ls[j].n, .int .i64 ls[j].a])) : LoadsK F (ad.add (j * 4)) 4 K := by
  have hx : ls[j]? = some ls[j] := List.getElem?_eq_getElem hj
  refine loads_row hr (by decide) (by rw [linesV_len]; omega) ?_
  rw [linesV_at ls j _ hx]
  exact hk
theorem all_take {ls : List LD} {j : Nat} (hj : j < ls.length) (h : (ls.take j).all lineOk = true) : (ls.take (j + 1)).all lineOk = lineOk ls[j] ∧ (lineOk ls[j] = false → ls.all lineOk = false) := by
  have hx : ls[j]? = some ls[j] := List.getElem?_eq_getElem hj
  refine ⟨?_, fun e => ?_⟩
  · rw [List.take_add_one, hx, List.all_append, h]
    simp
  · rw [← Bool.not_eq_true, List.all_eq_true]
    intro h
    rw [h _ (List.getElem_mem hj)] at e
    cases e
theorem may (k y x f o n p d l a : Int) (ab : Bool) (nm : List UInt8) (ls : List LD) (A : Option Addr) (c : Nat) (F : Heap) (hr : RowAt F A (linesV ls)) (hn : nm.length ≤ 100000) (hl : ls.length ≤ 10000) :
    FnK Try.prog 47 #[.agg (cmdC k y x f o n p d l a ab ⟨nm.toArray⟩ (.slice A ls.length c))] F (fun v F' => v = .bool (mayB ⟨k, y, x, f, o, n, p, d, l, a, ab, nm, ls⟩) ∧ Ext F F') := by
  have hm := mayB_iff ⟨k, y, x, f, o, n, p, d, l, a, ab, nm, ls⟩
  generalize mayB ⟨k, y, x, f, o, n, p, d, l, a, ab, nm, ls⟩ = q at hm ⊢
  dsimp only at hm
  have no : ∀ F', ¬ (q = true) → Ext F F' → (Value.bool false = .bool q ∧ Ext F F') := by
    intro F' h hE
    rw [Bool.not_eq_true] at h
    exact ⟨by rw [h], hE⟩
  have yes : ∀ F', q = true → Ext F F' → (Value.bool true = .bool q ∧ Ext F F') := by
    intro F' h hE
    exact ⟨by rw [h], hE⟩
  have c1 := known k
  generalize knownB k = z1 at c1 hm
  have c2 := fun A F hr => fits 2 (.inr (.inl rfl)) [y, x, f, o, n, p] A 6 F hr (by simp)
  generalize ([y, x, f, o, n, p] : List Int).all (inM 2) = z2 at c2 hm
  have c3 := fun A F hr => fits 4 (.inr (.inr (.inl rfl))) [d] A 1 F hr (by simp)
  generalize ([d] : List Int).all (inM 4) = z3 at c3 hm
  have c4 := fun A F hr => fits 1 (.inl rfl) [l] A 1 F hr (by simp)
  generalize ([l] : List Int).all (inM 1) = z4 at c4 hm
  have c5 := fun (q : LD) A F hr => fits 2 (.inr (.inl rfl)) [q.f, q.o, q.n] A 3 F hr (by simp)
  (refine fn_walk tab_ok Try.func47 rfl rfl rfl rfl ?_; (conv => whnf))
  refine new_step (cmdO k y x f o n p d l a ab ⟨nm.toArray⟩ (.slice A ls.length c)) rfl fun b hb => ?_
  have hE := Ext.new hb (cmdO k y x f o n p d l a ab ⟨nm.toArray⟩ (.slice A ls.length c))
  have hB := Heap.put_same F b (cmdO k y x f o n p d l a ab ⟨nm.toArray⟩ (.slice A ls.length c))
  generalize F.put b _ = F1 at hE hB ⊢
  (conv => whnf)
  refine load_blk hB rfl rfl ?_
  (conv => whnf)
  refine call_of (c1 _) ?_
  rintro v F1 ⟨rfl, rfl⟩
  cases z1 with
  | false =>
    (conv => whnf)
    exact no _ (fun h => by cases (hm.1 h).1) hE
  | true =>
  (conv => whnf)
  refine load_blk hB rfl rfl ?_
  (conv => whnf)
  refine cond_split (fun h => ?_) (fun h => ?_)
  case refine_2 =>
    have h : (!decide (((nm.length : Nat) : Int) > 255)) = false := h
    (conv => whnf)
    exact no _ (fun h' => by have := (hm.1 h').2.1; simp at h; omega) hE
  have h2 : nm.length ≤ 255 := by
    have h : (!decide (((nm.length : Nat) : Int) > 255)) = true := h
    simp at h
    omega
  (conv => whnf)
  refine load_blk hB rfl rfl ?_
  (conv => whnf)
  refine cond_split (fun h => ?_) (fun h => ?_)
  · have h : decide (((ls.length : Nat) : Int) > 255) = true := h
    have h := of_decide_eq_true h
    (conv => whnf)
    exact no _ (fun h' => by have := (hm.1 h').2.2.1; omega) hE
  have h3 : ls.length ≤ 255 := by
    have h : decide (((ls.length : Nat) : Int) > 255) = false := h
    have := of_decide_eq_false h
    omega
  (conv => whnf)
  refine load_blk hB rfl rfl ?_
  (conv => whnf)
  refine load_blk hB rfl rfl ?_
  (conv => whnf)
  refine load_blk hB rfl rfl ?_
  (conv => whnf)
  refine load_blk hB rfl rfl ?_
  (conv => whnf)
  refine load_blk hB rfl rfl ?_
  (conv => whnf)
  refine load_blk hB rfl rfl ?_
  (conv => whnf)
  refine new_step (.cells (([y, x, f, o, n, p] : List Int).map (Value.int .i64)).toArray 3) rfl fun g hg => ?_
  have hE2 := hE.trans (Ext.new hg (.cells (([y, x, f, o, n, p] : List Int).map (Value.int .i64)).toArray 3))
  have hB2 := (Ext.new hg (.cells (([y, x, f, o, n, p] : List Int).map (Value.int .i64)).toArray 3)) _ _ hB
  have hG := Heap.put_same F1 g (.cells (([y, x, f, o, n, p] : List Int).map (Value.int .i64)).toArray 3)
  generalize F1.put g _ = F2 at hE2 hB2 hG ⊢
  (conv => whnf)
  refine call_of (c2 (some ⟨g, 0, none⟩) F2 (row_new hG)) ?_
  rintro v F3 ⟨rfl, hE3⟩
  have hB3 := hE3 _ _ hB2
  replace hE3 := hE2.trans hE3
  refine short [1, 34] [.pointer (some ⟨b, 0, none⟩), .bool z2] rfl fun ρ => ?_
  cases z2 with
  | false =>
    (conv => whnf)
    exact no _ (fun h => by cases (hm.1 h).2.2.2.1) hE3
  | true =>
  (conv => whnf)
  refine load_blk hB3 rfl rfl ?_
  (conv => whnf)
  refine new_step (.cells (([d] : List Int).map (Value.int .i64)).toArray 3) rfl fun g hg => ?_
  have hE4 := hE3.trans (Ext.new hg (.cells (([d] : List Int).map (Value.int .i64)).toArray 3))
  have hB4 := (Ext.new hg (.cells (([d] : List Int).map (Value.int .i64)).toArray 3)) _ _ hB3
  have hG := Heap.put_same F3 g (.cells (([d] : List Int).map (Value.int .i64)).toArray 3)
  generalize F3.put g _ = F4 at hE4 hB4 hG ⊢
  (conv => whnf)
  refine call_of (c3 (some ⟨g, 0, none⟩) F4 (row_new hG)) ?_
  rintro v F5 ⟨rfl, hE5⟩
  have hB5 := hE5 _ _ hB4
  replace hE5 := hE4.trans hE5
  cases z3 with
  | false =>
    (conv => whnf)
    exact no _ (fun h => by cases (hm.1 h).2.2.2.2.1) hE5
  | true =>
  (conv => whnf)
  refine load_blk hB5 rfl rfl ?_
  (conv => whnf)
  refine new_step (.cells (([l] : List Int).map (Value.int .i64)).toArray 3) rfl fun g hg => ?_
  have hE6 := hE5.trans (Ext.new hg (.cells (([l] : List Int).map (Value.int .i64)).toArray 3))
  have hB6 := (Ext.new hg (.cells (([l] : List Int).map (Value.int .i64)).toArray 3)) _ _ hB5
  have hG := Heap.put_same F5 g (.cells (([l] : List Int).map (Value.int .i64)).toArray 3)
  generalize F5.put g _ = F6 at hE6 hB6 hG ⊢
  (conv => whnf)
  refine call_of (c4 (some ⟨g, 0, none⟩) F6 (row_new hG)) ?_
  rintro v F7 ⟨rfl, hE7⟩
  have hB7 := hE7 _ _ hB6
  replace hE7 := hE6.trans hE7
  cases z4 with
  | false =>
    (conv => whnf)
    exact no _ (fun h => by cases (hm.1 h).2.2.2.2.2.1) hE7
  | true =>
  (conv => whnf)
  refine load_blk hB7 rfl rfl ?_
  (conv => whnf)
  refine loop_slots [51, 52, 53] (fun mm vs F' => ∃ j : Nat, j + mm = ls.length ∧ vs = [.slice A ls.length c, .int .i64 (ls.length : Int), .int .i64 (j : Int)] ∧ (ls.take j).all lineOk = true ∧ Ext F F') ls.length ⟨0, by omega, rfl, rfl, hE7⟩ ?_
  rintro m vs F8 ρ ⟨j, hjm, rfl, hall, hE8⟩
  (conv => whnf)
  refine cond_split (fun h => ?_) (fun h => ?_)
  · have hj : j < ls.length := by have := of_decide_eq_true h; omega
    obtain ⟨ad, rfl⟩ := hr.some (by rw [linesV_len]; omega)
    obtain ⟨ht1, ht2⟩ := all_take hj hall
    have c6 := c5 ls[j]
    change ∀ A F, _ → FnK _ _ _ _ (fun v F' => v = .bool (lineOk ls[j]) ∧ _) at c6
    generalize lineOk ls[j] = z5 at ht1 ht2 c6
    have hLr := fun (K : Value → Prop) => line_load (K := K) (hr.mono hE8) hj
    have hja : ad.add (Int.toNat (j : Int) * 4) = ad.add (j * 4) := by rw [Int.toNat_natCast]
    rw [← hja] at hLr
    generalize ls[j] = w at c6 hLr
    obtain ⟨wf, wo, wn, wa⟩ := w
    dsimp only at c6 hLr
    (conv => whnf)
    refine ⟨⟨by omega, by omega⟩, ?_⟩
    (conv => whnf)
    refine hLr _ ?_
    (conv => whnf)
    refine new_step (lineO 0 0 0 0) rfl fun u hu => ?_
    have hE9 := hE8.trans (Ext.new hu (lineO 0 0 0 0))
    have hU := Heap.put_same F8 u (lineO 0 0 0 0)
    have hEu : ∀ o, Ext F8 ((F8.put u (lineO 0 0 0 0)).put u o) := fun o => ext_put_put hu
    generalize F8.put u _ = F9 at hE9 hU hEu ⊢
    have o1 : ∀ v ∈ [Value.int .i64 wf, .int .i64 wo, .int .i64 wn, .int .i64 wa], v.oneCell' = true := by simp [Value.oneCell']
    (conv => whnf)
    refine store_step u 0 _ #[.int .i64 wf, .int .i64 wo, .int .i64 wn, .int .i64 wa] rfl hU rfl rfl (.inl (Nat.le_refl 0)) o1 ?_
    have hE10 := hE8.trans (hEu (lineO wf wo wn wa))
    have hU10 := Heap.put_same F9 u (lineO wf wo wn wa)
    generalize F9.put u _ = F10 at hE10 hU10 ⊢
    refine short [4, 51, 52, 53] [.pointer (some ⟨u, 0, none⟩), .slice (some ad) ls.length c, .int .i64 (ls.length : Int), .int .i64 (j : Int)] rfl fun ρ => ?_
    (conv => whnf)
    refine load_blk hU10 rfl rfl ?_
    (conv => whnf)
    refine load_blk hU10 rfl rfl ?_
    (conv => whnf)
    refine load_blk hU10 rfl rfl ?_
    (conv => whnf)
    refine new_step (.cells (([wf, wo, wn] : List Int).map (Value.int .i64)).toArray 3) rfl fun g hg => ?_
    have hE11 := hE10.trans (Ext.new hg (.cells (([wf, wo, wn] : List Int).map (Value.int .i64)).toArray 3))
    have hG := Heap.put_same F10 g (.cells (([wf, wo, wn] : List Int).map (Value.int .i64)).toArray 3)
    generalize F10.put g _ = F11 at hE11 hG ⊢
    (conv => whnf)
    refine call_of (c6 (some ⟨g, 0, none⟩) F11 (row_new hG)) ?_
    rintro v F12 ⟨rfl, hE12⟩
    replace hE12 := hE11.trans hE12
    cases z5 with
    | false =>
      (conv => whnf)
      exact no _ (fun h => by have := (hm.1 h).2.2.2.2.2.2; rw [ht2 rfl] at this; cases this) hE12
    | true =>
      (conv => whnf)
      refine ⟨m - 1, by omega, j + 1, by omega, ?_, ht1, hE12⟩
      have hw : IntKind.i64.wrap ((j : Int) + 1) = ((j + 1 : Nat) : Int) := by rw [IntKind.wrap_i64]; omega
      rw [← hw]
      rfl
  · have hj : j = ls.length := by have := of_decide_eq_false h; omega
    subst hj
    rw [List.take_length] at hall
    (conv => whnf)
    exact yes _ (hm.2 ⟨rfl, h2, h3, rfl, rfl, rfl, hall⟩) hE8
end Go.Proofs.Ytkahpaipciooiac.Al

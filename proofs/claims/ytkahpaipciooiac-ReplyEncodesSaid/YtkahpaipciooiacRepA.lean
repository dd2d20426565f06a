/- Replies: what they are; Same, Done, and the reference's Ints, Same, Done; reply.part and counted; over what is known of memory. -/
import Derived.Test.YtkahpaipciooiacBEq
import Derived.Test.YtkahpaipciooiacGetG
import Derived.Test.YtkahpaipciooiacConcat
import Derived.Test.YtkahpaipciooiacAlRange
namespace Go.Proofs.Ytkahpaipciooiac.Al
open Go Go.Al Go.Proofs Go.RowKit
set_option maxHeartbeats 8000000
set_option maxRecDepth 100000
set_option linter.unusedVariables false
set_option linter.unusedSimpArgs false
structure RD where
  k : Int
  ns : List Int
  t : List UInt8
abbrev rpC (k : Int) (S : Value) (t : List UInt8) : Array Value := #[.int .i64 k, S, .string ⟨t.toArray⟩]
abbrev rpO (k : Int) (S : Value) (t : List UInt8) : Obj := .cells (rpC k S t) 27
def sameR (x y : RD) : Bool := (x.k == y.k) && ((x.t == y.t) && (x.ns == y.ns))
theorem sameR_iff (x y : RD) : sameR x y = true ↔ x = y := by
  obtain ⟨a, b, c⟩ := x
  obtain ⟨a', b', c'⟩ := y
  unfold sameR
  simp only [Bool.and_eq_true, beq_iff_eq, RD.mk.injEq]
  exact ⟨fun ⟨h1, h2, h3⟩ => ⟨h1, h3, h2⟩, fun ⟨h1, h2, h3⟩ => ⟨h1, h3, h2⟩⟩
def doneR (k : Int) : Bool := (k == 0) || (k == 15)
theorem ints (x y : List Int) (A B : Option Addr) (c e : Nat) (F : Heap) (hx : RowAt F A (x.map (.int .i64))) (hy : RowAt F B (y.map (.int .i64))) (hl : x.length ≤ 100000) (hl' : y.length ≤ 100000) :
    FnK Try.prog 36 #[.slice A x.length c, .slice B y.length e] F (fun v F' => v = .bool (x == y) ∧ F' = F) := by
  have no : ∀ F' : Heap, ¬ x = y → F' = F → Value.bool false = .bool (x == y) ∧ F' = F := by
    intro F' h hF
    refine ⟨congrArg Value.bool ?_, hF⟩
    rw [eq_comm, ← Bool.not_eq_true, beq_iff_eq]
    exact h
  have yes : ∀ F' : Heap, x = y → F' = F → Value.bool true = .bool (x == y) ∧ F' = F := by
    intro F' h hF
    refine ⟨congrArg Value.bool ?_, hF⟩
    rw [eq_comm, beq_iff_eq]
    exact h
  generalize (x == y) = res at no yes
  (refine fn_walk tab_ok Try.func36 rfl rfl rfl rfl ?_; (conv => whnf))
  refine cond_split (fun h => ?_) (fun h => ?_)
  · have h : ((x.length : Int) != (y.length : Int)) = true := h
    have hne : x.length ≠ y.length := fun e => by rw [e] at h; simp at h
    (conv => whnf)
    exact no _ (fun h => hne (by rw [h])) rfl
  have hlen : x.length = y.length := by
    have h : ((x.length : Int) != (y.length : Int)) = false := h
    have := bne_eq_false_iff_eq.1 h
    omega
  (conv => whnf)
  refine loop_slots [0, 1, 5] (fun mm vs F' => ∃ j : Nat, j + mm = x.length ∧ vs = [.slice A x.length c, .slice B y.length e, .int .i64 (j : Int)] ∧ x.take j = y.take j ∧ F' = F) x.length ⟨0, by omega, rfl, rfl, rfl⟩ ?_
  rintro mm vs F2 ρ ⟨j, hjm, rfl, heq, rfl⟩
  (conv => whnf)
  refine cond_split (fun h => ?_) (fun h => ?_)
  · have hj : j < x.length := by have := of_decide_eq_true h; omega
    have hj' : j < y.length := by omega
    obtain ⟨ad, rfl⟩ := hx.some (by simp; omega)
    obtain ⟨bd, rfl⟩ := hy.some (by simp; omega)
    have hxa : x[j]? = some x[j] := List.getElem?_eq_getElem hj
    have hya : y[j]? = some y[j] := List.getElem?_eq_getElem hj'
    have hcx : F2.cell? (ad.add j) = some (.int .i64 x[j]) := hx.cell (by simp [hxa])
    have hcy : F2.cell? (bd.add j) = some (.int .i64 y[j]) := hy.cell (by simp [hya])
    have st : x[j] = y[j] → x.take (j + 1) = y.take (j + 1) := fun h => by rw [List.take_add_one, List.take_add_one, hxa, hya, heq, h]
    have nn : x[j] ≠ y[j] → ¬ x = y := fun h e => by
      subst e; exact h rfl
    generalize x[j] = p at hcx st nn
    generalize y[j] = q at hcy st nn
    (conv => whnf)
    refine draw_walk tab_ok (by kernel_rfl) [0, 1, 2, 3, 4, 5, 6, 7, 8] (by kernel_rfl) ?_
    ((conv => whnf); repeat (first | (apply load_at; (conv => lhs; whnf); (with_reducible assumption); rfl; (conv => whnf)) | (apply loads_at; (conv => lhs; whnf); (with_reducible assumption); rfl; (conv => whnf)) | (refine ⟨⟨by omega, by omega⟩, ?_⟩; (conv => whnf))))
    refine load_step (v := .int .i64 p) ?_ ?_
    · show F2.cell? (ad.add (Int.toNat (j : Int) * 1)) = _
      rw [Int.toNat_natCast, Nat.mul_one]; exact hcx
    ((conv => whnf); repeat (first | (apply load_at; (conv => lhs; whnf); (with_reducible assumption); rfl; (conv => whnf)) | (apply loads_at; (conv => lhs; whnf); (with_reducible assumption); rfl; (conv => whnf)) | (refine ⟨⟨by omega, by omega⟩, ?_⟩; (conv => whnf))))
    refine load_step (v := .int .i64 q) ?_ ?_
    · show F2.cell? (bd.add (Int.toNat (j : Int) * 1)) = _
      rw [Int.toNat_natCast, Nat.mul_one]; exact hcy
    ((conv => whnf); repeat (first | (apply load_at; (conv => lhs; whnf); (with_reducible assumption); rfl; (conv => whnf)) | (apply loads_at; (conv => lhs; whnf); (with_reducible assumption); rfl; (conv => whnf)) | (refine ⟨⟨by omega, by omega⟩, ?_⟩; (conv => whnf))))
    refine cond_split (fun h => ?_) (fun h => ?_)
    · have h : (p != q) = true := h
      (conv => whnf)
      exact no _ (nn (by simpa using h)) rfl
    · have h : (p != q) = false := h
      (conv => whnf)
      refine ⟨mm - 1, by omega, j + 1, by omega, ?_, st (by simpa using h), rfl⟩
      rw [← wrap_succ (j := j) (by omega)]
      rfl
  · have hj : j = x.length := by have := of_decide_eq_false h; omega
    subst hj
    rw [List.take_length, hlen, List.take_length] at heq
    (conv => whnf)
    exact yes _ heq rfl
theorem rdone (k : Int) (S : Value) (t : List UInt8) (F : Heap) : FnK Try.prog 18 #[.agg (rpC k S t)] F (fun v F' => v = .bool (doneR k) ∧ Ext F F') := by
  unfold doneR
  (refine fn_walk tab_ok Try.func18 rfl rfl rfl rfl ?_; (conv => whnf))
  refine new_step (rpO k S t) rfl fun b h0_b => ?_
  have hE_b := Ext.new h0_b (rpO k S t)
  have hB_b := Heap.put_same F b (rpO k S t)
  generalize F.put b _ = F1 at hE_b hB_b ⊢
  ((conv => whnf); repeat (first | (apply load_at; (conv => lhs; whnf); (with_reducible assumption); rfl; (conv => whnf)) | (apply loads_at; (conv => lhs; whnf); (with_reducible assumption); rfl; (conv => whnf)) | (refine ⟨⟨by omega, by omega⟩, ?_⟩; (conv => whnf))))
  refine cond_split (fun h => ?_) (fun h => ?_)
  · have h : (!(k == 0)) = true := h
    ((conv => whnf); repeat (first | (apply load_at; (conv => lhs; whnf); (with_reducible assumption); rfl; (conv => whnf)) | (apply loads_at; (conv => lhs; whnf); (with_reducible assumption); rfl; (conv => whnf)) | (refine ⟨⟨by omega, by omega⟩, ?_⟩; (conv => whnf))))
    refine ⟨congrArg Value.bool ?_, hE_b⟩
    rw [Bool.not_eq_true'] at h
    rw [h, Bool.false_or]
  · have h : (!(k == 0)) = false := h
    ((conv => whnf); repeat (first | (apply load_at; (conv => lhs; whnf); (with_reducible assumption); rfl; (conv => whnf)) | (apply loads_at; (conv => lhs; whnf); (with_reducible assumption); rfl; (conv => whnf)) | (refine ⟨⟨by omega, by omega⟩, ?_⟩; (conv => whnf))))
    refine ⟨congrArg Value.bool ?_, hE_b⟩
    rw [Bool.not_eq_false'] at h
    rw [h, Bool.true_or]
theorem done (k : Int) (S : Value) (t : List UInt8) (F : Heap) : FnK Try.prog 17 #[.agg (rpC k S t)] F (fun v F' => v = .bool (doneR k) ∧ Ext F F') := by
  have hd : doneR k = ((k == 0) || (k == 15)) := rfl
  generalize doneR k = z at hd
  (refine fn_walk tab_ok Try.func17 rfl rfl rfl rfl ?_; (conv => whnf))
  refine new_step (rpO k S t) rfl fun b h0_b => ?_
  have hE_b := Ext.new h0_b (rpO k S t)
  have hB_b := Heap.put_same F b (rpO k S t)
  generalize F.put b _ = F1 at hE_b hB_b ⊢
  ((conv => whnf); repeat (first | (apply load_at; (conv => lhs; whnf); (with_reducible assumption); rfl; (conv => whnf)) | (apply loads_at; (conv => lhs; whnf); (with_reducible assumption); rfl; (conv => whnf)) | (refine ⟨⟨by omega, by omega⟩, ?_⟩; (conv => whnf))))
  refine cond_split (fun h => ?_) (fun h => ?_)
  · have h : (k == 0) = true := h
    rw [h, Bool.true_or] at hd
    ((conv => whnf); repeat (first | (apply load_at; (conv => lhs; whnf); (with_reducible assumption); rfl; (conv => whnf)) | (apply loads_at; (conv => lhs; whnf); (with_reducible assumption); rfl; (conv => whnf)) | (refine ⟨⟨by omega, by omega⟩, ?_⟩; (conv => whnf))))
    exact ⟨congrArg Value.bool hd.symm, hE_b⟩
  · have h : (k == 0) = false := h
    rw [h, Bool.false_or] at hd
    ((conv => whnf); repeat (first | (apply load_at; (conv => lhs; whnf); (with_reducible assumption); rfl; (conv => whnf)) | (apply loads_at; (conv => lhs; whnf); (with_reducible assumption); rfl; (conv => whnf)) | (refine ⟨⟨by omega, by omega⟩, ?_⟩; (conv => whnf))))
    refine cond_split (fun h' => ?_) (fun h' => ?_)
    · have h' : (k == 15) = true := h'
      rw [h'] at hd
      ((conv => whnf); repeat (first | (apply load_at; (conv => lhs; whnf); (with_reducible assumption); rfl; (conv => whnf)) | (apply loads_at; (conv => lhs; whnf); (with_reducible assumption); rfl; (conv => whnf)) | (refine ⟨⟨by omega, by omega⟩, ?_⟩; (conv => whnf))))
      exact ⟨congrArg Value.bool hd.symm, hE_b⟩
    · have h' : (k == 15) = false := h'
      rw [h'] at hd
      ((conv => whnf); repeat (first | (apply load_at; (conv => lhs; whnf); (with_reducible assumption); rfl; (conv => whnf)) | (apply loads_at; (conv => lhs; whnf); (with_reducible assumption); rfl; (conv => whnf)) | (refine ⟨⟨by omega, by omega⟩, ?_⟩; (conv => whnf))))
      exact ⟨congrArg Value.bool hd.symm, hE_b⟩
theorem same (k k' : Int) (ns ns' : List Int) (t t' : List UInt8) (A B : Option Addr) (c c' : Nat) (F : Heap) (hr : RowAt F A (ns.map (.int .i64))) (hs : RowAt F B (ns'.map (.int .i64))) (hl : ns.length ≤ 100000) (hl' : ns'.length ≤ 100000) :
    FnK Try.prog 16 #[.agg (rpC k (.slice A ns.length c) t), .agg (rpC k' (.slice B ns'.length c') t')] F (fun v F' => v = .bool (sameR ⟨k, ns, t⟩ ⟨k', ns', t'⟩) ∧ Ext F F') := by
  have hsb : sameR ⟨k, ns, t⟩ ⟨k', ns', t'⟩ = ((k == k') && ((t == t') && (ns == ns'))) := rfl
  have he := fun G g1 g2 => slicesEqual ns ns' A B c c' G g1 g2 hl hl'
  have hst := str_beq t t'
  generalize (ns == ns') = z3 at hsb he
  generalize (t == t') = z2 at hsb hst
  generalize sameR ⟨k, ns, t⟩ ⟨k', ns', t'⟩ = z at hsb ⊢
  (refine fn_walk tab_ok Try.func16 rfl rfl rfl rfl ?_; (conv => whnf))
  refine new_step (rpO k (.slice A ns.length c) t) rfl fun b h0_b => ?_
  have hE_b := Ext.new h0_b (rpO k (.slice A ns.length c) t)
  have hB_b := Heap.put_same F b (rpO k (.slice A ns.length c) t)
  generalize F.put b _ = F1 at hE_b hB_b ⊢
  ((conv => whnf); repeat (first | (apply load_at; (conv => lhs; whnf); (with_reducible assumption); rfl; (conv => whnf)) | (apply loads_at; (conv => lhs; whnf); (with_reducible assumption); rfl; (conv => whnf)) | (refine ⟨⟨by omega, by omega⟩, ?_⟩; (conv => whnf))))
  refine new_step (rpO k' (.slice B ns'.length c') t') rfl fun g h0_g => ?_
  have hE_g := Ext.new h0_g (rpO k' (.slice B ns'.length c') t')
  have hB_g := Heap.put_same F1 g (rpO k' (.slice B ns'.length c') t')
  generalize F1.put g _ = F2 at hE_g hB_g ⊢
  have hB1 := hE_g _ _ hB_b
  have hE := hE_b.trans hE_g
  ((conv => whnf); repeat (first | (apply load_at; (conv => lhs; whnf); (with_reducible assumption); rfl; (conv => whnf)) | (apply loads_at; (conv => lhs; whnf); (with_reducible assumption); rfl; (conv => whnf)) | (refine ⟨⟨by omega, by omega⟩, ?_⟩; (conv => whnf))))
  refine cond_split (fun h => ?_) (fun h => ?_)
  case refine_2 =>
    have h : (k == k') = false := h
    rw [h, Bool.false_and] at hsb
    ((conv => whnf); repeat (first | (apply load_at; (conv => lhs; whnf); (with_reducible assumption); rfl; (conv => whnf)) | (apply loads_at; (conv => lhs; whnf); (with_reducible assumption); rfl; (conv => whnf)) | (refine ⟨⟨by omega, by omega⟩, ?_⟩; (conv => whnf))))
    exact ⟨congrArg Value.bool hsb.symm, hE⟩
  have h : (k == k') = true := h
  rw [h, Bool.true_and] at hsb
  ((conv => whnf); repeat (first | (apply load_at; (conv => lhs; whnf); (with_reducible assumption); rfl; (conv => whnf)) | (apply loads_at; (conv => lhs; whnf); (with_reducible assumption); rfl; (conv => whnf)) | (refine ⟨⟨by omega, by omega⟩, ?_⟩; (conv => whnf))))
  refine cond_split (fun h => ?_) (fun h => ?_)
  case refine_2 =>
    obtain rfl : z2 = false := hst.symm.trans h
    rw [Bool.false_and] at hsb
    ((conv => whnf); repeat (first | (apply load_at; (conv => lhs; whnf); (with_reducible assumption); rfl; (conv => whnf)) | (apply loads_at; (conv => lhs; whnf); (with_reducible assumption); rfl; (conv => whnf)) | (refine ⟨⟨by omega, by omega⟩, ?_⟩; (conv => whnf))))
    exact ⟨congrArg Value.bool hsb.symm, hE⟩
  obtain rfl : z2 = true := hst.symm.trans h
  rw [Bool.true_and] at hsb
  ((conv => whnf); repeat (first | (apply load_at; (conv => lhs; whnf); (with_reducible assumption); rfl; (conv => whnf)) | (apply loads_at; (conv => lhs; whnf); (with_reducible assumption); rfl; (conv => whnf)) | (refine ⟨⟨by omega, by omega⟩, ?_⟩; (conv => whnf))))
  refine call_of (he F2 (hr.mono hE) (hs.mono hE)) ?_
  rintro v F3 ⟨rfl, rfl⟩
  ((conv => whnf); repeat (first | (apply load_at; (conv => lhs; whnf); (with_reducible assumption); rfl; (conv => whnf)) | (apply loads_at; (conv => lhs; whnf); (with_reducible assumption); rfl; (conv => whnf)) | (refine ⟨⟨by omega, by omega⟩, ?_⟩; (conv => whnf))))
  exact ⟨congrArg Value.bool hsb.symm, hE⟩
theorem rsame (k k' : Int) (ns ns' : List Int) (t t' : List UInt8) (A B : Option Addr) (c c' : Nat) (F : Heap) (hr : RowAt F A (ns.map (.int .i64))) (hs : RowAt F B (ns'.map (.int .i64))) (hl : ns.length ≤ 100000) (hl' : ns'.length ≤ 100000) :
    FnK Try.prog 12 #[.agg (rpC k (.slice A ns.length c) t), .agg (rpC k' (.slice B ns'.length c') t')] F (fun v F' => v = .bool (sameR ⟨k, ns, t⟩ ⟨k', ns', t'⟩) ∧ Ext F F') := by
  have hsb : sameR ⟨k, ns, t⟩ ⟨k', ns', t'⟩ = ((k == k') && ((t == t') && (ns == ns'))) := rfl
  have he := fun G g1 g2 => ints ns ns' A B c c' G g1 g2 hl hl'
  have hst := str_beq t t'
  generalize (ns == ns') = z3 at hsb he
  generalize (t == t') = z2 at hsb hst
  generalize sameR ⟨k, ns, t⟩ ⟨k', ns', t'⟩ = z at hsb ⊢
  (refine fn_walk tab_ok Try.func12 rfl rfl rfl rfl ?_; (conv => whnf))
  refine new_step (rpO k (.slice A ns.length c) t) rfl fun b h0_b => ?_
  have hE_b := Ext.new h0_b (rpO k (.slice A ns.length c) t)
  have hB_b := Heap.put_same F b (rpO k (.slice A ns.length c) t)
  generalize F.put b _ = F1 at hE_b hB_b ⊢
  ((conv => whnf); repeat (first | (apply load_at; (conv => lhs; whnf); (with_reducible assumption); rfl; (conv => whnf)) | (apply loads_at; (conv => lhs; whnf); (with_reducible assumption); rfl; (conv => whnf)) | (refine ⟨⟨by omega, by omega⟩, ?_⟩; (conv => whnf))))
  refine new_step (rpO k' (.slice B ns'.length c') t') rfl fun g h0_g => ?_
  have hE_g := Ext.new h0_g (rpO k' (.slice B ns'.length c') t')
  have hB_g := Heap.put_same F1 g (rpO k' (.slice B ns'.length c') t')
  generalize F1.put g _ = F2 at hE_g hB_g ⊢
  have hB1 := hE_g _ _ hB_b
  have hE := hE_b.trans hE_g
  ((conv => whnf); repeat (first | (apply load_at; (conv => lhs; whnf); (with_reducible assumption); rfl; (conv => whnf)) | (apply loads_at; (conv => lhs; whnf); (with_reducible assumption); rfl; (conv => whnf)) | (refine ⟨⟨by omega, by omega⟩, ?_⟩; (conv => whnf))))
  refine cond_split (fun h => ?_) (fun h => ?_)
  case refine_2 =>
    have h : (k == k') = false := h
    rw [h, Bool.false_and] at hsb
    ((conv => whnf); repeat (first | (apply load_at; (conv => lhs; whnf); (with_reducible assumption); rfl; (conv => whnf)) | (apply loads_at; (conv => lhs; whnf); (with_reducible assumption); rfl; (conv => whnf)) | (refine ⟨⟨by omega, by omega⟩, ?_⟩; (conv => whnf))))
    exact ⟨congrArg Value.bool hsb.symm, hE⟩
  have h : (k == k') = true := h
  rw [h, Bool.true_and] at hsb
  ((conv => whnf); repeat (first | (apply load_at; (conv => lhs; whnf); (with_reducible assumption); rfl; (conv => whnf)) | (apply loads_at; (conv => lhs; whnf); (with_reducible assumption); rfl; (conv => whnf)) | (refine ⟨⟨by omega, by omega⟩, ?_⟩; (conv => whnf))))
  refine cond_split (fun h => ?_) (fun h => ?_)
  case refine_2 =>
    obtain rfl : z2 = false := hst.symm.trans h
    rw [Bool.false_and] at hsb
    ((conv => whnf); repeat (first | (apply load_at; (conv => lhs; whnf); (with_reducible assumption); rfl; (conv => whnf)) | (apply loads_at; (conv => lhs; whnf); (with_reducible assumption); rfl; (conv => whnf)) | (refine ⟨⟨by omega, by omega⟩, ?_⟩; (conv => whnf))))
    exact ⟨congrArg Value.bool hsb.symm, hE⟩
  obtain rfl : z2 = true := hst.symm.trans h
  rw [Bool.true_and] at hsb
  ((conv => whnf); repeat (first | (apply load_at; (conv => lhs; whnf); (with_reducible assumption); rfl; (conv => whnf)) | (apply loads_at; (conv => lhs; whnf); (with_reducible assumption); rfl; (conv => whnf)) | (refine ⟨⟨by omega, by omega⟩, ?_⟩; (conv => whnf))))
  refine call_of (he F2 (hr.mono hE) (hs.mono hE)) ?_
  rintro v F3 ⟨rfl, rfl⟩
  ((conv => whnf); repeat (first | (apply load_at; (conv => lhs; whnf); (with_reducible assumption); rfl; (conv => whnf)) | (apply loads_at; (conv => lhs; whnf); (with_reducible assumption); rfl; (conv => whnf)) | (refine ⟨⟨by omega, by omega⟩, ?_⟩; (conv => whnf))))
  exact ⟨congrArg Value.bool hsb.symm, hE⟩
/-- A cut of bytes: where it lies does not matter. -/
def CutR (F : Heap) (v : Value) (l : List UInt8) : Prop := ∃ A c, v = .slice A l.length c ∧ l.length ≤ c ∧ RowAt F A (bytesOf l)
theorem part (b : List UInt8) (A : Option Addr) (c n : Nat) (F : Heap) (hr : RowAt F A (bytesOf b)) (hc : b.length ≤ c) (hl : b.length ≤ 100000) (hn : n ≤ 100000000) :
    FnK Try.prog 31 #[.slice A b.length c, .int .i64 (n : Int)] F (fun v F' => F' = F ∧ ((n ≤ b.length ∧ ∃ S T, v = .tuple #[S, T, .bool true] ∧ CutR F S (b.take n) ∧ CutR F T (b.drop n)) ∨ (¬ n ≤ b.length ∧ v = .tuple #[.slice none 0 0, .slice none 0 0, .bool false]))) := by
  (refine fn_walk tab_ok Try.func31 rfl rfl rfl rfl ?_; (conv => whnf))
  refine cond_split (fun h => ?_) (fun h => ?_)
  · have h : decide ((n : Int) > (b.length : Int)) = true := h
    have h := of_decide_eq_true h
    ((conv => whnf); repeat (first | (apply load_at; (conv => lhs; whnf); (with_reducible assumption); rfl; (conv => whnf)) | (apply loads_at; (conv => lhs; whnf); (with_reducible assumption); rfl; (conv => whnf)) | (refine ⟨⟨by omega, by omega⟩, ?_⟩; (conv => whnf))))
    exact ⟨rfl, .inr ⟨by omega, rfl⟩⟩
  · have h : decide ((n : Int) > (b.length : Int)) = false := h
    have h := of_decide_eq_false h
    have h1 := row_cut3 0 n c 0 hr rfl (by omega) (by omega)
    rw [List.drop_zero] at h1
    have h2 := row_cut3 n (b.length - n) c (Int.toNat (n : Int)) hr (Int.toNat_natCast n) (by omega) (by omega)
    rw [List.take_of_length_le (by rw [List.length_drop]; exact Nat.le_refl _)] at h2
    have l1 : (b.take n).length = n := by rw [List.length_take]; omega
    have l2 : (b.drop n).length = b.length - n := List.length_drop
    ((conv => whnf); repeat (first | (apply load_at; (conv => lhs; whnf); (with_reducible assumption); rfl; (conv => whnf)) | (apply loads_at; (conv => lhs; whnf); (with_reducible assumption); rfl; (conv => whnf)) | (refine ⟨⟨by omega, by omega⟩, ?_⟩; (conv => whnf))))
    refine draw_walk tab_ok (by kernel_rfl) [0, 1, 2, 3, 4, 5, 6, 7, 8] (by kernel_rfl) ?_
    ((conv => whnf); repeat (first | (apply load_at; (conv => lhs; whnf); (with_reducible assumption); rfl; (conv => whnf)) | (apply loads_at; (conv => lhs; whnf); (with_reducible assumption); rfl; (conv => whnf)) | (refine ⟨⟨by omega, by omega⟩, ?_⟩; (conv => whnf))))
    refine ⟨rfl, .inl ⟨by omega, _, _, rfl, ⟨_, c, ?_, by omega, h1⟩, ⟨_, c - n, ?_, by omega, h2⟩⟩⟩
    · exact slice_eq rfl (by rw [l1]; omega) rfl
    · exact slice_eq rfl (by rw [l2]; omega) (by omega)
end Go.Proofs.Ytkahpaipciooiac.Al

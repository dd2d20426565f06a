/- The contracts of the package meta's helpers and of its reference's, over what is known of memory. -/
import Derived.Test.YtkahpaipciooiaaGet4
namespace Go.Proofs.Ytkahpaipciooiaa.Al
open Go Go.Al Go.Proofs Go.RowKit
set_option maxHeartbeats 8000000
set_option maxRecDepth 100000
set_option linter.unusedVariables false
set_option linter.unusedSimpArgs false
theorem rin (n : Int) (F : Heap) : FnK Try.prog 25 #[.int .i64 n] F (fun v F' => v = .bool (in4 n) ∧ F' = F) := by
  unfold in4
  (refine fn_walk tab_ok Try.func25 rfl rfl rfl rfl ?_; (conv => whnf))
  refine cond_split (fun h => ?_) (fun h => ?_)
  · (conv => whnf)
    replace h : decide (0 ≤ n) = true := h
    exact ⟨by rw [h]; rfl, rfl⟩
  · (conv => whnf)
    replace h : decide (0 ≤ n) = false := h
    exact ⟨by rw [h]; rfl, rfl⟩
theorem fit1 (n : Int) (F : Heap) : FnK Try.prog 29 #[.int .i64 n] F (fun v F' => v = .bool (!in4 n) ∧ F' = F) := by
  (refine fn_walk tab_ok Try.func29 rfl rfl rfl rfl ?_; (conv => whnf))
  refine call_of (right4 n F) ?_
  rintro v _ ⟨rfl, rfl⟩
  (conv => whnf)
  exact ⟨rfl, rfl⟩
theorem indexF (l : List Int) (A : Option Addr) (c : Nat) (F : Heap) (hr : RowAt F A (l.map (.int .i64))) (hl : l.length ≤ 100000) :
    FnK Try.prog 32 #[.slice A l.length c, .func (.func 29) #[] #[]] F (fun v F' => (∃ r : Int, v = .int .i64 r ∧ decide (r ≥ 0) = !l.all in4) ∧ F' = F) := by
  (refine fn_walk tab_ok Try.func32 rfl rfl rfl rfl ?_; (conv => whnf))
  refine loop_slots [0, 1, 7, 8] (fun k vs F2 => ∃ j : Nat, j + k = l.length ∧ vs = [.slice A l.length c, .func (.func 29) #[] #[], .int .i64 (l.length : Int), .int .i64 (j : Int)] ∧ (l.take j).all in4 = true ∧ F2 = F) l.length ⟨0, by omega, rfl, rfl, rfl⟩ ?_
  rintro k vs F2 ρ ⟨j, hjk, rfl, hall, rfl⟩
  (conv => whnf)
  refine cond_split (fun h => ?_) (fun h => ?_)
  · have hj : j < l.length := by have := of_decide_eq_true h; omega
    obtain ⟨ad, rfl⟩ := hr.some (by simp; omega)
    have hx : l[j]? = some l[j] := List.getElem?_eq_getElem hj
    (conv => whnf)
    refine ⟨⟨by omega, by omega⟩, ?_⟩
    (conv => whnf)
    refine load_step (v := .int .i64 l[j]) ?_ ?_
    · show F2.cell? (ad.add (Int.toNat (j : Int) * 1)) = _
      rw [Int.toNat_natCast, Nat.mul_one]
      exact hr.cell (by simp [hx])
    (conv => whnf)
    have hf := fit1 l[j] F2
    have hstep : (l.take (j + 1)).all in4 = ((l.take j).all in4 && in4 l[j]) := by
      rw [List.take_add_one, hx, Option.toList_some, List.all_append]
      simp
    have hex : in4 l[j] = false → l.all in4 = false := fun e => by
      rw [List.all_eq_false]
      exact ⟨l[j], List.getElem_mem hj, by rw [e]; decide⟩
    generalize in4 l[j] = z at hf hstep hex
    refine call_of hf ?_
    rintro v _ ⟨rfl, rfl⟩
    cases z with
    | true =>
      (conv => whnf)
      refine ⟨k - 1, by omega, j + 1, by omega, ?_, by rw [hstep, hall]; rfl, rfl⟩
      have hw : IntKind.i64.wrap ((j : Int) + 1) = ((j + 1 : Nat) : Int) := by rw [IntKind.wrap_i64]; omega
      rw [← hw]
      rfl
    | false =>
      (conv => whnf)
      exact ⟨⟨_, rfl, by rw [hex rfl]; simp⟩, rfl⟩
  · have hj : j = l.length := by have := of_decide_eq_false h; omega
    subst hj
    rw [List.take_length] at hall
    (conv => whnf)
    exact ⟨⟨_, rfl, by rw [hall]; rfl⟩, rfl⟩
theorem containsF (l : List Int) (A : Option Addr) (c : Nat) (F : Heap) (hr : RowAt F A (l.map (.int .i64))) (hl : l.length ≤ 100000) :
    FnK Try.prog 28 #[.slice A l.length c, .func (.func 29) #[] #[]] F (fun v F' => v = .bool (!l.all in4) ∧ F' = F) := by
  have hi := indexF l A c F hr hl
  (refine fn_walk tab_ok Try.func28 rfl rfl rfl rfl ?_; (conv => whnf))
  refine call_of hi ?_
  rintro v F1 ⟨⟨r, rfl, hr'⟩, rfl⟩
  (conv => whnf)
  exact ⟨congrArg Value.bool hr', rfl⟩
theorem fitsK (l : List Int) (A : Option Addr) (c : Nat) (F : Heap) (hr : RowAt F A (l.map (.int .i64))) (hl : l.length ≤ 100000) :
    FnK Try.prog 23 #[.slice A l.length c] F (fun v F' => v = .bool (l.all in4) ∧ F' = F) := by
  have hi := containsF l A c F hr hl
  generalize l.all in4 = z at hi ⊢
  (refine fn_walk tab_ok Try.func23 rfl rfl rfl rfl ?_; (conv => whnf))
  refine call_of hi ?_
  rintro v F1 ⟨rfl, rfl⟩
  (conv => whnf)
  exact ⟨congrArg Value.bool (Bool.not_not z), rfl⟩
/-- A row that reads as these bytes. -/
def Bs (F : Heap) (v : Value) (bs : List UInt8) : Prop := ∃ A c, v = .slice A bs.length c ∧ bs.length ≤ c ∧ RowAt F A (bytesOf bs)
theorem Bs.of_mine {F F' : Heap} {v : Value} {bs : List UInt8} (h : Mine F F' v 5 1 bs.length (bytesOf bs)) : Bs F' v bs := by
  obtain ⟨A, c, h1, h2, h3⟩ := h.own.row
  exact ⟨A, c, h1, h2, h3⟩
def putAll (bs : List UInt8) (l : List Int) : List UInt8 := l.foldl put4 bs
theorem put4_len (bs : List UInt8) (n : Int) : (put4 bs n).length ≤ bs.length + 4 := by
  unfold put4
  cases in4 n <;> simp [be4]
theorem putAll_len : ∀ (l : List Int) (bs : List UInt8), (putAll bs l).length ≤ bs.length + 4 * l.length := by
  intro l
  induction l with
  | nil => intro bs; simp [putAll]
  | cons n l ih =>
    intro bs
    have h1 := ih (put4 bs n)
    have h2 := put4_len bs n
    show (putAll (put4 bs n) l).length ≤ _
    rw [List.length_cons]
    omega
theorem words (bs : List UInt8) (v : Value) (l : List Int) (A : Option Addr) (c : Nat) (F : Heap) (hb : Bs F v bs) (hr : RowAt F A (l.map (.int .i64))) (hl : bs.length + 4 * l.length ≤ 90000) :
    FnK Try.prog 17 #[v, .slice A l.length c] F (fun r F' => Bs F' r (putAll bs l) ∧ Ext F F') := by
  obtain ⟨A0, c0, rfl, _, _⟩ := id hb
  (refine fn_walk tab_ok Try.func17 rfl rfl rfl rfl ?_; (conv => whnf))
  refine loop_slots [0, 7, 8, 9] (fun k vs F2 => ∃ (j : Nat) (w : Value), j + k = l.length ∧ vs = [w, .slice A l.length c, .int .i64 (l.length : Int), .int .i64 (j : Int)] ∧ Bs F2 w (putAll bs (l.take j)) ∧ Ext F F2) l.length ⟨0, _, by omega, rfl, hb, Ext.refl F⟩ ?_
  rintro k vs F2 ρ ⟨j, w, hjk, rfl, hw, hE⟩
  (conv => whnf)
  refine cond_split (fun h => ?_) (fun h => ?_)
  · have hj : j < l.length := by have := of_decide_eq_true h; omega
    obtain ⟨ad, rfl⟩ := hr.some (by simp; omega)
    have hx : l[j]? = some l[j] := List.getElem?_eq_getElem hj
    obtain ⟨A1, c1, rfl, hc1, hr1⟩ := hw
    have hlen := putAll_len (l.take j) bs
    rw [List.length_take] at hlen
    (conv => whnf)
    refine ⟨⟨by omega, by omega⟩, ?_⟩
    (conv => whnf)
    refine load_step (v := .int .i64 l[j]) ?_ ?_
    · show F2.cell? (ad.add (Int.toNat (j : Int) * 1)) = _
      rw [Int.toNat_natCast, Nat.mul_one]
      exact hE.cell (hr.cell (by simp [hx]))
    (conv => whnf)
    refine call_of (put (putAll bs (l.take j)) A1 c1 l[j] F2 hr1 (by omega)) ?_
    intro r F3 hm
    (conv => whnf)
    refine ⟨k - 1, by omega, j + 1, r, by omega, ?_, ?_, hE.trans hm.ext⟩
    · have hw : IntKind.i64.wrap ((j : Int) + 1) = ((j + 1 : Nat) : Int) := by rw [IntKind.wrap_i64]; omega
      rw [← hw]
      rfl
    · have hs : putAll bs (l.take (j + 1)) = put4 (putAll bs (l.take j)) l[j] := by
        unfold putAll
        rw [List.take_add_one, hx, Option.toList_some, List.foldl_append]
        rfl
      rw [hs]
      exact Bs.of_mine hm
  · have hj : j = l.length := by have := of_decide_eq_false h; omega
    subst hj
    rw [List.take_length] at hw
    (conv => whnf)
    exact ⟨hw, hE⟩
end Go.Proofs.Ytkahpaipciooiaa.Al

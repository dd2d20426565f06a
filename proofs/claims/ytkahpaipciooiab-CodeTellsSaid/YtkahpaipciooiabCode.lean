/- The contracts of the package code and of its reference, over what is known of memory. -/
import Derived.Test.YtkahpaipciooiabJoin
import Derived.Test.YtkahpaipciooiabRText
namespace Go.Proofs.Ytkahpaipciooiab.Al
open Go Go.Al Go.Proofs Go.RowKit
set_option maxHeartbeats 8000000
set_option maxRecDepth 100000
set_option linter.unusedVariables false
set_option linter.unusedSimpArgs false
def inB (lo hi n : Int) : Bool := decide (lo ≤ n) && decide (n ≤ hi)
theorem within (n lo hi : Int) (F : Heap) : FnK Try.prog 67 #[.int .i64 n, .int .i64 lo, .int .i64 hi] F (fun v F' => v = .bool (inB lo hi n) ∧ F' = F) := by
  unfold inB
  (refine fn_walk tab_ok Try.func67 rfl rfl rfl rfl ?_; (conv => whnf))
  refine cond_split (fun h => ?_) (fun h => ?_)
  · (conv => whnf)
    replace h : decide (lo ≤ n) = true := h
    exact ⟨by rw [h]; rfl, rfl⟩
  · (conv => whnf)
    replace h : decide (lo ≤ n) = false := h
    exact ⟨by rw [h]; rfl, rfl⟩
theorem fund (n : Int) (F : Heap) : FnK Try.prog 40 #[.int .i64 n] F (fun v F' => v = .bool (inB 100 999 n) ∧ F' = F) := by
  (refine fn_walk tab_ok Try.func40 rfl rfl rfl rfl ?_; (conv => whnf))
  refine call_of (within n 100 999 F) ?_
  rintro v _ ⟨rfl, rfl⟩
  (conv => whnf)
  exact ⟨rfl, rfl⟩
theorem object (n : Int) (F : Heap) : FnK Try.prog 42 #[.int .i64 n] F (fun v F' => v = .bool (inB 1000 5999 n) ∧ F' = F) := by
  (refine fn_walk tab_ok Try.func42 rfl rfl rfl rfl ?_; (conv => whnf))
  refine call_of (within n 1000 5999 F) ?_
  rintro v _ ⟨rfl, rfl⟩
  (conv => whnf)
  exact ⟨rfl, rfl⟩
theorem rfund (n : Int) (F : Heap) : FnK Try.prog 41 #[.int .i64 n] F (fun v F' => v = .bool (inB 100 999 n) ∧ F' = F) := by
  unfold inB
  (refine fn_walk tab_ok Try.func41 rfl rfl rfl rfl ?_; (conv => whnf))
  refine cond_split (fun h => ?_) (fun h => ?_)
  · (conv => whnf)
    replace h : decide (100 ≤ n) = true := h
    exact ⟨by rw [h]; rfl, rfl⟩
  · (conv => whnf)
    replace h : decide (100 ≤ n) = false := h
    exact ⟨by rw [h]; rfl, rfl⟩
theorem robject (n : Int) (F : Heap) : FnK Try.prog 43 #[.int .i64 n] F (fun v F' => v = .bool (inB 1000 5999 n) ∧ F' = F) := by
  unfold inB
  (refine fn_walk tab_ok Try.func43 rfl rfl rfl rfl ?_; (conv => whnf))
  refine cond_split (fun h => ?_) (fun h => ?_)
  · (conv => whnf)
    replace h : decide (1000 ≤ n) = true := h
    exact ⟨by rw [h]; rfl, rfl⟩
  · (conv => whnf)
    replace h : decide (1000 ≤ n) = false := h
    exact ⟨by rw [h]; rfl, rfl⟩
def classI (n : Int) : Int := bif inB 1000 5999 n then IntKind.i64.wrap (n.tdiv 1000) else 0
theorem class_ (n : Int) (F : Heap) : FnK Try.prog 44 #[.int .i64 n] F (fun v F' => v = .int .i64 (classI n) ∧ F' = F) := by
  unfold classI
  (refine fn_walk tab_ok Try.func44 rfl rfl rfl rfl ?_; (conv => whnf))
  refine call_of (object n F) ?_
  rintro v _ ⟨rfl, rfl⟩
  generalize inB 1000 5999 n = c
  cases c with
  | true =>
    (conv => whnf)
    refine ⟨by decide, ?_⟩
    (conv => whnf)
    exact ⟨rfl, rfl⟩
  | false =>
    (conv => whnf)
    exact ⟨rfl, rfl⟩
theorem rclass (n : Int) (F : Heap) : FnK Try.prog 45 #[.int .i64 n] F (fun v F' => v = .int .i64 (classI n) ∧ F' = F) := by
  unfold classI
  (refine fn_walk tab_ok Try.func45 rfl rfl rfl rfl ?_; (conv => whnf))
  refine call_of (robject n F) ?_
  rintro v _ ⟨rfl, rfl⟩
  generalize inB 1000 5999 n = c
  cases c with
  | true =>
    (conv => whnf)
    refine ⟨by decide, ?_⟩
    (conv => whnf)
    exact ⟨rfl, rfl⟩
  | false =>
    (conv => whnf)
    exact ⟨rfl, rfl⟩
def fixedB (n : Int) : Bool := n == 1010 || (n == 1900 || (n == 2900 || n == 3000))
theorem fixed (n : Int) (F : Heap) : FnK Try.prog 46 #[.int .i64 n] F (fun v F' => v = .bool (fixedB n) ∧ F' = F) := by
  unfold fixedB
  (refine fn_walk tab_ok Try.func46 rfl rfl rfl rfl ?_; (conv => whnf))
  refine cond_split (fun h => ?_) (fun h => ?_)
  · (conv => whnf)
    exact ⟨by rw [h]; rfl, rfl⟩
  (conv => whnf)
  refine cond_split (fun h2 => ?_) (fun h2 => ?_)
  · (conv => whnf)
    exact ⟨by rw [h, h2]; rfl, rfl⟩
  (conv => whnf)
  refine cond_split (fun h3 => ?_) (fun h3 => ?_)
  · (conv => whnf)
    exact ⟨by rw [h, h2, h3]; rfl, rfl⟩
  (conv => whnf)
  refine cond_split (fun h4 => ?_) (fun h4 => ?_)
  · (conv => whnf)
    exact ⟨by rw [h, h2, h3, h4]; rfl, rfl⟩
  · (conv => whnf)
    exact ⟨by rw [h, h2, h3, h4]; rfl, rfl⟩
theorem rfixed (n : Int) (F : Heap) : FnK Try.prog 47 #[.int .i64 n] F (fun v F' => v = .bool (fixedB n) ∧ F' = F) := by
  unfold fixedB
  (refine fn_walk tab_ok Try.func47 rfl rfl rfl rfl ?_; (conv => whnf))
  refine cond_split (fun h => ?_) (fun h => ?_)
  · have e1 : (n == 1010) = false := by simpa using h
    (conv => whnf)
    refine cond_split (fun h => ?_) (fun h => ?_)
    · have e2 : (n == 1900) = false := by simpa using h
      (conv => whnf)
      refine cond_split (fun h => ?_) (fun h => ?_)
      · have e3 : (n == 2900) = false := by simpa using h
        (conv => whnf)
        exact ⟨by rw [e1, e2, e3]; rfl, rfl⟩
      · have e3 : (n == 2900) = true := by simpa using h
        (conv => whnf)
        exact ⟨by rw [e1, e2, e3]; rfl, rfl⟩
    · have e2 : (n == 1900) = true := by simpa using h
      (conv => whnf)
      exact ⟨by rw [e1, e2]; rfl, rfl⟩
  · have e1 : (n == 1010) = true := by simpa using h
    (conv => whnf)
    exact ⟨by rw [e1]; rfl, rfl⟩
def printS (a b : Int) : List UInt8 := bif inB 100 999 a && inB 1000 5999 b then txt a ++ [46] ++ txt b else []
theorem inB_iff (lo hi n : Int) : inB lo hi n = true ↔ lo ≤ n ∧ n ≤ hi := by unfold inB; simp
theorem txt_pos (n : Int) (h : 0 ≤ n) : txt n = (digsR n.toNat).reverse := by
  unfold txt
  rw [if_neg (by omega), show n.natAbs = n.toNat by omega]
theorem txt_small (n : Int) (h0 : 0 ≤ n) (h1 : n ≤ 9999) : (txt n).length ≤ 4 := by
  rw [txt_pos n h0, List.length_reverse]
  exact digsR_log 3 _ (by omega)
theorem print (a b : Int) (F : Heap) : FnK Try.prog 48 #[.int .i64 a, .int .i64 b] F (fun v F' => v = .string ⟨(printS a b).toArray⟩ ∧ Ext F F') := by
  unfold printS
  have ha := inB_iff 100 999 a
  have hb := inB_iff 1000 5999 b
  have h1 := fund a F
  have h2 := object b F
  generalize inB 100 999 a = x at ha h1
  generalize inB 1000 5999 b = y at hb h2
  (refine fn_walk tab_ok Try.func48 rfl rfl rfl rfl ?_; (conv => whnf))
  refine call_of h1 ?_
  rintro v _ ⟨rfl, rfl⟩
  cases x with
  | false =>
    (conv => whnf)
    exact ⟨rfl, Ext.refl _⟩
  | true =>
    obtain ⟨a0, a1⟩ := ha.1 rfl
    (conv => whnf)
    refine call_of h2 ?_
    rintro v _ ⟨rfl, rfl⟩
    cases y with
    | false =>
      (conv => whnf)
      exact ⟨rfl, Ext.refl _⟩
    | true =>
      obtain ⟨b0, b1⟩ := hb.1 rfl
      (conv => whnf)
      refine call_of (text a (by omega) (by omega) _) ?_
      rintro v F1 ⟨rfl, hF1⟩
      (conv => whnf)
      refine call_of (text b (by omega) (by omega) _) ?_
      rintro v F2 ⟨rfl, hF2⟩
      (conv => whnf)
      refine new_step (.cells #[.string ⟨(txt a).toArray⟩, .string ⟨(txt b).toArray⟩] 9) rfl fun g hg => ?_
      (conv => whnf)
      refine call_of (joinDot ⟨g, 0, none⟩ 2 (txt a) (txt b) _ (by decide) (fun j v hj => ⟨_, rfl, ?_⟩) (by have := txt_small a (by omega) (by omega); omega) (by have := txt_small b (by omega) (by omega); omega)) ?_
      · rw [add_plain, Heap.cell_at (Heap.put_same _ _ _), Nat.zero_add]
        simpa using hj
      rintro v F3 ⟨rfl, hF3⟩
      (conv => whnf)
      exact ⟨rfl, hF1.trans (hF2.trans ((Ext.new hg _).trans hF3))⟩
theorem rprint (a b : Int) (F : Heap) : FnK Try.prog 49 #[.int .i64 a, .int .i64 b] F (fun v F' => v = .string ⟨(printS a b).toArray⟩ ∧ F' = F) := by
  unfold printS
  have ha := inB_iff 100 999 a
  have hb := inB_iff 1000 5999 b
  have h1 := rfund a F
  have h2 := robject b F
  generalize inB 100 999 a = x at ha h1
  generalize inB 1000 5999 b = y at hb h2
  (refine fn_walk tab_ok Try.func49 rfl rfl rfl rfl ?_; (conv => whnf))
  refine call_of h1 ?_
  rintro v _ ⟨rfl, rfl⟩
  cases x with
  | false =>
    (conv => whnf)
    exact ⟨rfl, rfl⟩
  | true =>
    obtain ⟨a0, a1⟩ := ha.1 rfl
    (conv => whnf)
    refine call_of h2 ?_
    rintro v _ ⟨rfl, rfl⟩
    cases y with
    | false =>
      (conv => whnf)
      exact ⟨rfl, rfl⟩
    | true =>
      obtain ⟨b0, b1⟩ := hb.1 rfl
      have s1 := txt_small a (by omega) (by omega)
      have s2 := txt_small b (by omega) (by omega)
      (conv => whnf)
      refine call_of (rtext a (by omega) (by omega) _) ?_
      rintro v _ ⟨rfl, rfl⟩
      (conv => whnf)
      refine ⟨?_, ?_⟩
      · show (((txt a).toArray.size + 1 : Nat) : Int) ≤ _
        simp; omega
      (conv => whnf)
      refine call_of (rtext b (by omega) (by omega) _) ?_
      rintro v _ ⟨rfl, rfl⟩
      (conv => whnf)
      refine ⟨?_, ?_⟩
      · show ((((⟨(txt a).toArray⟩ : ByteArray) ++ ⟨#[46]⟩).size + (txt b).toArray.size : Nat) : Int) ≤ _
        rw [show (⟨#[46]⟩ : ByteArray) = ⟨[46].toArray⟩ from rfl, str_app]
        simp [ByteArray.size]; omega
      (conv => whnf)
      refine ⟨congrArg Value.string ?_, rfl⟩
      rw [show (⟨#[46]⟩ : ByteArray) = ⟨[46].toArray⟩ from rfl, str_app, str_app]
      rfl
def stepI (n : Int) (c : UInt8) : Int := IntKind.i64.wrap (IntKind.i64.wrap (10 * n) + IntKind.i64.wrap (IntKind.u8.wrap ((c.toNat : Int) - 48)))
def numI (l : List UInt8) : Int := l.foldl stepI 0
theorem number (l : List UInt8) (hl : l.length ≤ 300) (F : Heap) : FnK Try.prog 66 #[.string ⟨l.toArray⟩] F (fun v F' => v = .int .i64 (numI l) ∧ Ext F F') := by
  (refine fn_walk tab_ok Try.func66 rfl rfl rfl rfl ?_; (conv => whnf))
  refine conv_bytes tab_ok rfl rfl rfl rfl rfl fun b cs hb hn htk => ?_
  have hcell : ∀ j x, l[j]? = some x → (F.put b (.cells cs 5 (cs.size, cs.size + 1))).cell? ⟨b, j, none⟩ = some (.int .u8 (x.toNat : Int)) := by
    intro j x hx
    have hj : j < l.length := (List.getElem?_eq_some_iff.1 hx).1
    have : (cs.toList.take (⟨l.toArray⟩ : ByteArray).size)[j]? = some (.int .u8 (x.toNat : Int)) := by rw [htk]; simp [hx]
    rw [List.getElem?_take, if_pos (show j < (⟨l.toArray⟩ : ByteArray).size from hj)] at this
    rw [Heap.cell_at (Heap.put_same _ _ _)]
    simpa using this
  (conv => whnf)
  refine loop_slots [3, 7, 8, 9] (fun k vs F' => ∃ j : Nat, j + k = l.length ∧ vs = [.int .i64 (numI (l.take j)), .slice (some ⟨b, 0, none⟩) l.length cs.size, .int .i64 (l.length : Int), .int .i64 (j : Int)] ∧ F' = F.put b (.cells cs 5 (cs.size, cs.size + 1))) l.length ⟨0, by omega, rfl, rfl⟩ ?_
  rintro k vs _ ρ ⟨j, hjk, rfl, rfl⟩
  (conv => whnf)
  refine cond_split (fun h => ?_) (fun h => ?_)
  · have hj : j < l.length := by have := of_decide_eq_true h; omega
    (conv => whnf)
    refine ⟨⟨by omega, by omega⟩, ?_⟩
    (conv => whnf)
    refine load_step (v := .int .u8 ((l[j]).toNat : Int)) ?_ ?_
    · show (F.put b _).cell? ((⟨b, 0, none⟩ : Addr).add (Int.toNat (j : Int) * 1)) = _
      rw [add_plain, Int.toNat_natCast, Nat.mul_one, Nat.zero_add]
      exact hcell j _ (List.getElem?_eq_getElem hj)
    (conv => whnf)
    refine ⟨k - 1, by omega, j + 1, by omega, ?_, rfl⟩
    have hw : IntKind.i64.wrap ((j : Int) + 1) = ((j + 1 : Nat) : Int) := by rw [IntKind.wrap_i64]; omega
    have hs : numI (l.take (j + 1)) = stepI (numI (l.take j)) l[j] := by
      unfold numI
      rw [List.take_add_one, List.getElem?_eq_getElem hj, Option.toList_some, List.foldl_append]
      rfl
    rw [← hw, hs]
    rfl
  · have hj : j = l.length := by have := of_decide_eq_false h; omega
    subst hj
    (conv => whnf)
    exact ⟨by rw [List.take_length]; rfl, Ext.new hb _⟩
theorem str_cut (l : List UInt8) (a b : Nat) : (⟨l.toArray⟩ : ByteArray).extract a b = ⟨((l.drop a).take (b - a)).toArray⟩ := by
  apply ByteArray.ext
  rw [ByteArray.data_extract]
  apply Array.ext'
  simp [List.extract_eq_take_drop]
def triV (p : Int × Int × Bool) : Value := .tuple #[.int .i64 p.1, .int .i64 p.2.1, .bool p.2.2]
/-- What a text says, by its two numbers. -/
def sayS (n m : Int) (l : List UInt8) : Int × Int × Bool := bif printS n m == l then (n, m, true) else (0, 0, false)
def parseV (l : List UInt8) : Int × Int × Bool := if l.length = 8 then sayS (numI (l.take 3)) (numI (l.drop 4)) l else (0, 0, false)
theorem str_beq (a b : List UInt8) : ((⟨a.toArray⟩ : ByteArray).toList == (⟨b.toArray⟩ : ByteArray).toList) = (a == b) := by
  have : ∀ c : List UInt8, (⟨c.toArray⟩ : ByteArray).toList = c := fun c => by rw [ByteArray.toList_eq]
  rw [this, this]
theorem parse (l : List UInt8) (hl : l.length ≤ 9223372036854775807) (F : Heap) : FnK Try.prog 38 #[.string ⟨l.toArray⟩] F (fun v F' => v = triV (parseV l) ∧ Ext F F') := by
  unfold parseV
  (refine fn_walk tab_ok Try.func38 rfl rfl rfl rfl ?_; (conv => whnf))
  refine cond_split (fun h => ?_) (fun h => ?_)
  · have h : l.length ≠ 8 := by
      intro e
      replace h : ((l.length : Int) != 8) = true := h
      rw [e] at h
      cases h
    rw [if_neg h]
    (conv => whnf)
    exact ⟨rfl, Ext.refl _⟩
  · have h8 : l.length = 8 := by
      replace h : ((l.length : Int) != 8) = false := h
      have := bne_eq_false_iff_eq.1 h
      omega
    rw [if_pos h8]
    have n1 := fun F => number (l.take 3) (by simp; omega) F
    have n2 := fun F => number (l.drop 4) (by simp; omega) F
    rw [show (⟨(l.take 3).toArray⟩ : ByteArray) = (⟨l.toArray⟩ : ByteArray).extract 0 3 by rw [str_cut]; rfl] at n1
    rw [show (⟨(l.drop 4).toArray⟩ : ByteArray) = (⟨l.toArray⟩ : ByteArray).extract 4 (⟨l.toArray⟩ : ByteArray).size by rw [str_cut, List.take_of_length_le (by simp [ByteArray.size])]] at n2
    generalize numI (l.take 3) = n at n1
    generalize numI (l.drop 4) = m at n2
    (conv => whnf)
    refine draw_walk tab_ok (by kernel_rfl) [0, 1, 3, 4, 2, 5, 6, 7] (by kernel_rfl) ?_
    (conv => whnf)
    have hs8 : (⟨l.toArray⟩ : ByteArray).size = 8 := h8
    refine ⟨⟨by decide, by rw [hs8]; decide⟩, ?_⟩
    (conv => whnf)
    refine ⟨⟨by decide, by rw [hs8]; decide⟩, ?_⟩
    (conv => whnf)
    refine call_of (n1 _) ?_
    rintro v F1 ⟨rfl, hF1⟩
    (conv => whnf)
    refine call_of (n2 _) ?_
    rintro v F2 ⟨rfl, hF2⟩
    (conv => whnf)
    have hp := print n m F2
    unfold sayS
    have hq := str_beq (printS n m) l
    generalize (⟨(printS n m).toArray⟩ : ByteArray) = g at hp hq
    rw [← hq]
    generalize hc : (g.toList == (⟨l.toArray⟩ : ByteArray).toList) = c
    refine call_of hp ?_
    rintro v F3 ⟨rfl, hF3⟩
    (conv => whnf)
    refine cond_split (fun h => ?_) (fun h => ?_)
    · have : c = false := by rw [← hc]; simpa using h
      subst this
      (conv => whnf)
      exact ⟨rfl, hF1.trans (hF2.trans hF3)⟩
    · have : c = true := by rw [← hc]; simpa using h
      subst this
      (conv => whnf)
      exact ⟨rfl, hF1.trans (hF2.trans hF3)⟩
def stepR (n : Int) (c : UInt8) : Int := IntKind.i64.wrap (IntKind.i64.wrap (IntKind.i64.wrap (n * 10) + IntKind.i64.wrap (c.toNat : Int)) - 48)
def numR (l : List UInt8) : Int := l.foldl stepR 0
def parseR (l : List UInt8) : Int × Int × Bool := if l.length = 8 then sayS (numR (l.take 3)) (numR ((l.drop 4).take 4)) l else (0, 0, false)
theorem numR_step (l : List UInt8) (j : Nat) (hj : j < l.length) : numR (l.take (j + 1)) = stepR (numR (l.take j)) l[j] := by
  unfold numR
  rw [List.take_add_one, List.getElem?_eq_getElem hj, Option.toList_some, List.foldl_append]
  rfl
theorem str_get (l : List UInt8) (j : Nat) : (⟨l.toArray⟩ : ByteArray)[j]? = l[j]? := by
  by_cases h : j < l.length
  · rw [getElem?_pos (⟨l.toArray⟩ : ByteArray) j h, List.getElem?_eq_getElem h]
    rfl
  · rw [getElem?_neg (⟨l.toArray⟩ : ByteArray) j h, List.getElem?_eq_none (by omega)]
theorem rparse (l : List UInt8) (hl : l.length ≤ 9223372036854775807) (F : Heap) : FnK Try.prog 39 #[.string ⟨l.toArray⟩] F (fun v F' => v = triV (parseR l) ∧ F' = F) := by
  unfold parseR
  (refine fn_walk tab_ok Try.func39 rfl rfl rfl rfl ?_; (conv => whnf))
  refine cond_split (fun h => ?_) (fun h => ?_)
  · have h : l.length ≠ 8 := by
      intro e
      replace h : ((l.length : Int) != 8) = true := h
      rw [e] at h
      cases h
    rw [if_neg h]
    (conv => whnf)
    exact ⟨rfl, rfl⟩
  · have h8 : l.length = 8 := by
      replace h : ((l.length : Int) != 8) = false := h
      have := bne_eq_false_iff_eq.1 h
      omega
    rw [if_pos h8]
    (conv => whnf)
    refine loop_slots [0, 5, 6, 7] (fun k vs F' => ∃ j : Nat, j + k = 3 ∧ vs = [.string ⟨l.toArray⟩, .int .i64 (numR (l.take j)), .int .i64 0, .int .i64 (j : Int)] ∧ F' = F) 3 ⟨0, by omega, rfl, rfl⟩ ?_
    rintro k vs F1 ρ ⟨j, hjk, rfl, rfl⟩
    (conv => whnf)
    refine cond_split (fun h => ?_) (fun h => ?_)
    · have hj : j < 3 := by have := of_decide_eq_true h; omega
      (conv => whnf)
      refine ⟨⟨by omega, by rw [show (⟨l.toArray⟩ : ByteArray).size = 8 from h8]; omega⟩, fun b hb => ?_⟩
      rw [Int.toNat_natCast, str_get] at hb
      (conv => whnf)
      refine ⟨k - 1, by omega, j + 1, by omega, ?_, rfl⟩
      have hw : IntKind.i64.wrap ((j : Int) + 1) = ((j + 1 : Nat) : Int) := by rw [IntKind.wrap_i64]; omega
      obtain ⟨hjl, rfl⟩ := List.getElem?_eq_some_iff.1 hb
      rw [← hw, numR_step l j hjl]
      rfl
    · have hj : j = 3 := by have := of_decide_eq_false h; omega
      subst hj
      generalize numR (l.take 3) = n
      (conv => whnf)
      refine loop_slots [0, 5, 6, 8] (fun k vs F' => ∃ j : Nat, j + k = 4 ∧ vs = [.string ⟨l.toArray⟩, .int .i64 n, .int .i64 (numR ((l.drop 4).take j)), .int .i64 ((4 + j : Nat) : Int)] ∧ F' = F1) 4 ⟨0, by omega, rfl, rfl⟩ ?_
      rintro k vs F2 ρ ⟨j, hjk, rfl, rfl⟩
      (conv => whnf)
      refine cond_split (fun h => ?_) (fun h => ?_)
      · have hj : j < 4 := by have := of_decide_eq_true h; omega
        (conv => whnf)
        refine ⟨⟨by omega, by rw [show (⟨l.toArray⟩ : ByteArray).size = 8 from h8]; omega⟩, fun b hb => ?_⟩
        rw [Int.toNat_natCast, str_get, ← List.getElem?_drop] at hb
        (conv => whnf)
        refine ⟨k - 1, by omega, j + 1, by omega, ?_, rfl⟩
        have hw : IntKind.i64.wrap (((4 + j : Nat) : Int) + 1) = ((4 + (j + 1) : Nat) : Int) := by rw [IntKind.wrap_i64]; omega
        obtain ⟨hjl, rfl⟩ := List.getElem?_eq_some_iff.1 hb
        rw [← hw, numR_step (l.drop 4) j hjl]
        rfl
      · have hj : j = 4 := by have := of_decide_eq_false h; omega
        subst hj
        generalize numR ((l.drop 4).take 4) = m
        (conv => whnf)
        have hp := rprint n m F2
        unfold sayS
        have hq := str_beq (printS n m) l
        generalize (⟨(printS n m).toArray⟩ : ByteArray) = g at hp hq
        rw [← hq]
        generalize hc : (g.toList == (⟨l.toArray⟩ : ByteArray).toList) = c
        refine call_of hp ?_
        rintro v _ ⟨rfl, rfl⟩
        (conv => whnf)
        refine cond_split (fun h => ?_) (fun h => ?_)
        · have : c = false := by rw [← hc]; simpa using h
          subst this
          (conv => whnf)
          exact ⟨rfl, rfl⟩
        · have : c = true := by rw [← hc]; simpa using h
          subst this
          (conv => whnf)
          exact ⟨rfl, rfl⟩
end Go.Proofs.Ytkahpaipciooiab.Al

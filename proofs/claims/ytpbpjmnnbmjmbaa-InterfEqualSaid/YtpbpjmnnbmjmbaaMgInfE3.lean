/- Texts of this claim, joined: InfJ InfK. -/
import Derived.Test.YtpbpjmnnbmjmbaaMgInfE1
import Derived.Test.YtpbpjmnnbmjmbaaMgInfE2
/- Interfund lines: what sums come to, in plain Lean. -/
namespace Go.Proofs.Ytpbpjmnnbmjmbaa.Al
open Go Go.Al Go.Proofs Go.RowKit
set_option maxHeartbeats 8000000
set_option maxRecDepth 100000
set_option linter.unusedVariables false
set_option linter.unusedSimpArgs false
/-- Alike up to a multiple of 2^64. -/
def Cg (x y : Int) : Prop := ∃ k : Int, x = y + k * 18446744073709551616
theorem Cg.refl (x : Int) : Cg x x := ⟨0, by omega⟩
theorem Cg.wrap (x : Int) : Cg (IntKind.i64.wrap x) x := by
  rw [IntKind.wrap_i64]
  exact ⟨(((x + 9223372036854775808) % 18446744073709551616 - 9223372036854775808) - x) / 18446744073709551616, by omega⟩
theorem Cg.trans {x y z : Int} (h : Cg x y) (k : Cg y z) : Cg x z := by
  obtain ⟨a, h⟩ := h
  obtain ⟨b, k⟩ := k
  exact ⟨a + b, by rw [Int.add_mul]; omega⟩
theorem Cg.symm {x y : Int} (h : Cg x y) : Cg y x := by
  obtain ⟨a, h⟩ := h
  exact ⟨-a, by rw [Int.neg_mul]; omega⟩
theorem Cg.add {x y z w : Int} (h : Cg x y) (k : Cg z w) : Cg (x + z) (y + w) := by
  obtain ⟨a, h⟩ := h
  obtain ⟨b, k⟩ := k
  exact ⟨a + b, by rw [Int.add_mul]; omega⟩
theorem Cg.sub {x y z w : Int} (h : Cg x y) (k : Cg z w) : Cg (x - z) (y - w) := by
  obtain ⟨a, h⟩ := h
  obtain ⟨b, k⟩ := k
  exact ⟨a - b, by rw [Int.sub_mul]; omega⟩
def In64 (x : Int) : Prop := -9223372036854775808 ≤ x ∧ x ≤ 9223372036854775807
theorem in_wrap (x : Int) : In64 (IntKind.i64.wrap x) := by
  unfold In64
  rw [IntKind.wrap_i64]
  omega
theorem Cg.eq {x y : Int} (h : Cg x y) (hx : In64 x) (hy : In64 y) : x = y := by
  obtain ⟨k, h⟩ := h
  unfold In64 at hx hy
  omega
theorem wrap_zero (a : Int) : IntKind.i64.wrap (a + IntKind.i64.wrap (0 - a)) = 0 := by
  refine Cg.eq ?_ (in_wrap _) ⟨by decide, by decide⟩
  refine (Cg.wrap _).trans (((Cg.refl a).add (Cg.wrap (0 - a))).trans ?_)
  exact ⟨0, by omega⟩
theorem owed_pos (p : Int × Int) (h : 0 < p.2) : owedS (fdL p) = [⟨p.1, 2900, 0, IntKind.i64.wrap (0 - p.2)⟩] := if_pos h
theorem owed_neg (p : Int × Int) (h : p.2 < 0) : owedS (fdL p) = [⟨p.1, 1900, 0, IntKind.i64.wrap (0 - p.2)⟩] := (if_neg (show ¬ 0 < p.2 by omega)).trans (if_pos h)
theorem owed_nil (p : Int × Int) (h : p.2 = 0) : owedS (fdL p) = [] := (if_neg (show ¬ 0 < p.2 by omega)).trans (if_neg (show ¬ p.2 < 0 by omega))
/-- Behind the lines that are owed each sum is nought. -/
theorem owed_zero : ∀ (T S : SumL), T.Pairwise (fun x y => x.1 < y.1) → S.Pairwise (fun x y => x.1 < y.1) → (∀ p ∈ T, lkA S p.1 = some p.2) →
    ∀ k, lkA (sumS ((T.map fdL).flatMap owedS) S) k = if k ∈ T.map (·.1) then some 0 else lkA S k
  | [], S, _, _, _, k => by
    show lkA S k = if k ∈ ([] : List Int) then some 0 else lkA S k
    rw [if_neg List.not_mem_nil]
  | p :: T, S, hT, hS, h, k => by
    obtain ⟨h1, h2⟩ := List.pairwise_cons.1 hT
    have hp := h p List.mem_cons_self
    have key : ∀ S' : SumL, S'.Pairwise (fun x y => x.1 < y.1) → (∀ k, lkA S' k = if k = p.1 then some 0 else lkA S k) → lkA (sumS ((T.map fdL).flatMap owedS) S') k = if k ∈ (p :: T).map (·.1) then some 0 else lkA S k := by
      intro S' hS' hl
      rw [owed_zero T S' h2 hS' (fun q hq => by rw [hl, if_neg (by have := h1 q hq; omega)]; exact h q (List.mem_cons_of_mem _ hq)) k, hl k, List.map_cons]
      by_cases e : k = p.1
      · rw [if_pos e, if_pos (show k ∈ p.1 :: T.map (·.1) by rw [e]; exact List.mem_cons_self)]
        split <;> rfl
      · rw [if_neg e]
        by_cases e2 : k ∈ T.map (·.1)
        · rw [if_pos e2, if_pos (List.mem_cons_of_mem _ e2)]
        · rw [if_neg e2, if_neg (fun h => by rcases List.mem_cons.1 h with h | h; exact e h; exact e2 h)]
    have hap : sumS (((p :: T).map fdL).flatMap owedS) S = sumS ((T.map fdL).flatMap owedS) (sumS (owedS (fdL p)) S) := by
      rw [List.map_cons, List.flatMap_cons]
      unfold sumS
      rw [List.foldl_append]
    rw [hap]
    have one : ∀ k, lkA (addA S p.1 (IntKind.i64.wrap (0 - p.2))) k = if k = p.1 then some 0 else lkA S k := by
      intro k
      rw [lk_add S _ _ k hS, hp]
      show (if k = p.1 then some (IntKind.i64.wrap (p.2 + IntKind.i64.wrap (0 - p.2))) else _) = _
      rw [wrap_zero]
    rcases Int.lt_trichotomy 0 p.2 with h3 | h3 | h3
    · rw [owed_pos p h3]
      exact key (addA S p.1 (IntKind.i64.wrap (0 - p.2))) (add_srt hS _ _) one
    · rw [owed_nil p h3.symm]
      refine key S hS fun k => ?_
      by_cases e : k = p.1
      · rw [if_pos e, e, hp, ← h3]
      · rw [if_neg e]
    · rw [owed_neg p h3]
      exact key (addA S p.1 (IntKind.i64.wrap (0 - p.2))) (add_srt hS _ _) one
theorem all_zero (l : List LnD) : ∀ x ∈ fundsS (allS l), x.a = 0 := by
  intro x hx
  obtain ⟨p, hp, rfl⟩ := List.mem_map.1 hx
  show p.2 = 0
  have hS : (sumS l []).Pairwise (fun x y => x.1 < y.1) := sum_srt l List.Pairwise.nil
  have hall : sumS (allS l) [] = sumS (((sumS l []).map fdL).flatMap owedS) (sumS l []) := by
    unfold allS balS fundsS sumS
    rw [List.foldl_append]
  have hs2 : (sumS (allS l) []).Pairwise (fun x y => x.1 < y.1) := sum_srt (allS l) List.Pairwise.nil
  have h1 := (lkA_mem hs2 p.1 p.2).2 hp
  rw [hall, owed_zero _ _ hS hS (fun q hq => (lkA_mem hS q.1 q.2).2 hq)] at h1
  by_cases e : p.1 ∈ (sumS l []).map (·.1)
  · rw [if_pos e] at h1
    exact (Option.some.inj h1).symm
  · rw [if_neg e] at h1
    exact absurd (List.mem_map_of_mem (f := (·.1)) ((lkA_mem hS p.1 p.2).1 h1)) e
/-- What the law counts. -/
def totA (l : List LnD) : Int := l.foldl (fun s x => IntKind.i64.wrap (s + x.a)) 0
def debA (l : List LnD) : Int := l.foldl (fun s x => if x.o = 1900 then IntKind.i64.wrap (s + x.a) else s) 0
def creA (l : List LnD) : Int := l.foldl (fun s x => if x.o = 1900 then s else IntKind.i64.wrap (s - x.a)) 0
def totI (l : List LnD) : Int := l.foldl (fun s x => s + x.a) 0
theorem tot_take (l : List LnD) (j : Nat) (hj : j < l.length) : totA (l.take (j + 1)) = IntKind.i64.wrap (totA (l.take j) + l[j].a) := by
  unfold totA
  rw [List.take_add_one, List.getElem?_eq_getElem hj, List.foldl_append]
  rfl
theorem deb_take (l : List LnD) (j : Nat) (hj : j < l.length) : debA (l.take (j + 1)) = if l[j].o = 1900 then IntKind.i64.wrap (debA (l.take j) + l[j].a) else debA (l.take j) := by
  unfold debA
  rw [List.take_add_one, List.getElem?_eq_getElem hj, List.foldl_append]
  rfl
theorem cre_take (l : List LnD) (j : Nat) (hj : j < l.length) : creA (l.take (j + 1)) = if l[j].o = 1900 then creA (l.take j) else IntKind.i64.wrap (creA (l.take j) - l[j].a) := by
  unfold creA
  rw [List.take_add_one, List.getElem?_eq_getElem hj, List.foldl_append]
  rfl
theorem fold_cg : ∀ (l : List LnD) (s t : Int), Cg s t → Cg (l.foldl (fun s x => IntKind.i64.wrap (s + x.a)) s) (l.foldl (fun s x => s + x.a) t)
  | [], s, t, h => h
  | x :: l, s, t, h => fold_cg l _ _ ((Cg.wrap _).trans (h.add (Cg.refl _)))
theorem fold_shift : ∀ (l : List LnD) (s : Int), l.foldl (fun s x => s + x.a) s = s + totI l
  | [], s => by show s = s + 0; omega
  | x :: l, s => by
    have h1 := fold_shift l (s + x.a)
    have h2 := fold_shift l (0 + x.a)
    show List.foldl _ (s + x.a) l = s + List.foldl _ (0 + x.a) l
    rw [h1, h2]; omega
def sumI (S : SumL) : Int := S.foldl (fun s p => s + p.2) 0
theorem sumI_shift : ∀ (S : SumL) (s : Int), S.foldl (fun s p => s + p.2) s = s + sumI S
  | [], s => by show s = s + 0; omega
  | x :: l, s => by
    have h1 := sumI_shift l (s + x.2)
    have h2 := sumI_shift l (0 + x.2)
    show List.foldl _ (s + x.2) l = s + List.foldl _ (0 + x.2) l
    rw [h1, h2]; omega
theorem sumI_cons (p : Int × Int) (S : SumL) : sumI (p :: S) = p.2 + sumI S := by
  show List.foldl _ (0 + p.2) S = _
  rw [sumI_shift]; omega
theorem sumI_add : ∀ (S : SumL) (f n : Int), Cg (sumI (addA S f n)) (sumI S + n)
  | [], f, n => ⟨0, by show sumI [(f, n)] = sumI [] + n + 0 * _; rw [sumI_cons]; show n + 0 = 0 + n + _; omega⟩
  | p :: S, f, n => by
    unfold addA
    split
    · rw [sumI_cons, sumI_cons]
      have := (Cg.refl p.2).add (sumI_add S f n)
      rw [show p.2 + sumI S + n = p.2 + (sumI S + n) by omega]
      exact this
    · split
      · rw [sumI_cons, sumI_cons]
        have := (Cg.wrap (p.2 + n)).add (Cg.refl (sumI S))
        rw [show p.2 + sumI S + n = p.2 + n + sumI S by omega]
        exact this
      · rw [sumI_cons]
        exact ⟨0, by show n + sumI (p :: S) = _; omega⟩
theorem sumI_sum : ∀ (l : List LnD) (S : SumL), Cg (sumI (sumS l S)) (sumI S + totI l)
  | [], S => ⟨0, by show sumI S = sumI S + 0 + 0 * _; omega⟩
  | x :: l, S => by
    have h1 := sumI_sum l (addA S x.f x.a)
    have h2 := (sumI_add S x.f x.a).add (Cg.refl (totI l))
    have h3 : totI (x :: l) = x.a + totI l := by
      show List.foldl _ (0 + x.a) l = _
      rw [fold_shift]; omega
    rw [h3, show sumI S + (x.a + totI l) = sumI S + x.a + totI l by omega]
    exact h1.trans h2
theorem dc_cg : ∀ (S : SumL) (d c t : Int), Cg (d - c) t → Cg ((((S.map fdL).flatMap owedS).foldl (fun s x => if x.o = 1900 then IntKind.i64.wrap (s + x.a) else s) d) - (((S.map fdL).flatMap owedS).foldl (fun s x => if x.o = 1900 then s else IntKind.i64.wrap (s - x.a)) c)) (t - sumI S)
  | [], d, c, t, h => by
    rw [show t - sumI [] = t by show t - 0 = t; omega]
    exact h
  | p :: S, d, c, t, h => by
    rw [sumI_cons, List.map_cons, List.flatMap_cons, List.foldl_append, List.foldl_append, show t - (p.2 + sumI S) = t - p.2 - sumI S by omega]
    refine dc_cg S _ _ _ ?_
    rcases Int.lt_trichotomy 0 p.2 with h3 | h3 | h3
    · rw [owed_pos p h3]
      show Cg (d - IntKind.i64.wrap (c - IntKind.i64.wrap (0 - p.2))) _
      have h1 : Cg (IntKind.i64.wrap (c - IntKind.i64.wrap (0 - p.2))) (c + p.2) := (Cg.wrap _).trans (((Cg.refl c).sub (Cg.wrap _)).trans ⟨0, by omega⟩)
      refine ((Cg.refl d).sub h1).trans ?_
      rw [show d - (c + p.2) = d - c - p.2 by omega]
      exact h.sub (Cg.refl _)
    · rw [owed_nil p h3.symm]
      show Cg (d - c) _
      rw [show t - p.2 = t by omega]
      exact h
    · rw [owed_neg p h3]
      show Cg (IntKind.i64.wrap (d + IntKind.i64.wrap (0 - p.2)) - c) _
      have h1 : Cg (IntKind.i64.wrap (d + IntKind.i64.wrap (0 - p.2))) (d - p.2) := (Cg.wrap _).trans (((Cg.refl d).add (Cg.wrap _)).trans ⟨0, by omega⟩)
      refine (h1.sub (Cg.refl c)).trans ?_
      rw [show d - p.2 - c = d - c - p.2 by omega]
      exact h.sub (Cg.refl _)
theorem in_deb : ∀ (l : List LnD) (s : Int), In64 s → In64 (l.foldl (fun s x => if x.o = 1900 then IntKind.i64.wrap (s + x.a) else s) s)
  | [], s, h => h
  | x :: l, s, h => in_deb l _ (by dsimp only; split; exact in_wrap _; exact h)
theorem in_cre : ∀ (l : List LnD) (s : Int), In64 s → In64 (l.foldl (fun s x => if x.o = 1900 then s else IntKind.i64.wrap (s - x.a)) s)
  | [], s, h => h
  | x :: l, s, h => in_cre l _ (by dsimp only; split; exact h; exact in_wrap _)
/-- Where all amounts together are nought, what is due from is due to. -/
theorem due_eq (l : List LnD) (h : totA l = 0) : debA (balS l) = creA (balS l) := by
  have h1 : Cg (totA l) (totI l) := fold_cg l 0 0 (Cg.refl 0)
  rw [h] at h1
  have h2 := sumI_sum l []
  have h3 := dc_cg (sumS l []) 0 0 0 ⟨0, by omega⟩
  have h4 : Cg (sumI (sumS l [])) 0 := h2.trans (by rw [show sumI [] + totI l = totI l by show 0 + totI l = _; omega]; exact h1.symm)
  have h5 := h3.trans ((Cg.refl 0).sub h4)
  have h6 : Cg (debA (balS l)) (creA (balS l)) := by
    obtain ⟨k, hk⟩ := h5
    refine ⟨k, ?_⟩
    unfold debA creA balS fundsS
    omega
  exact h6.eq (in_deb _ _ ⟨by decide, by decide⟩) (in_cre _ _ ⟨by decide, by decide⟩)
theorem bal_wrap (l : List LnD) : ∀ x ∈ balS l, IntKind.i64.wrap x.a = x.a := by
  intro x hx
  obtain ⟨y, _, h⟩ := List.mem_flatMap.1 hx
  have hw : ∀ a, IntKind.i64.wrap (IntKind.i64.wrap a) = IntKind.i64.wrap a := fun a => (Cg.wrap _).eq (in_wrap _) (in_wrap _)
  unfold owedS at h
  split at h
  · rw [List.mem_singleton.1 h]; exact hw _
  · split at h
    · rw [List.mem_singleton.1 h]; exact hw _
    · cases h
end Go.Proofs.Ytpbpjmnnbmjmbaa.Al
/- Interfund lines: whether all sums are nought, twice. -/
namespace Go.Proofs.Ytpbpjmnnbmjmbaa.Al
open Go Go.Al Go.Proofs Go.RowKit
set_option maxHeartbeats 8000000
set_option maxRecDepth 100000
set_option linter.unusedVariables false
set_option linter.unusedSimpArgs false
theorem noughtFn (x : LnD) (hx : x.a = 0) (F : Heap) : FnK Try.prog 19 #[lnV x] F (fun v F' => v = .bool false ∧ Ext F F') := by
  obtain ⟨f, o, n, a⟩ := x
  obtain rfl : a = 0 := hx
  (refine fn_walk tab_ok Try.func19 rfl rfl rfl rfl ?_; (conv => whnf))
  refine new_step (.cells #[.int .i64 f, .int .i64 o, .int .i64 n, .int .i64 0] 27) rfl fun b h0_b => ?_
  have hE_b := Ext.new h0_b (.cells #[.int .i64 f, .int .i64 o, .int .i64 n, .int .i64 0] 27)
  have hB_b := Heap.put_same F b (.cells #[.int .i64 f, .int .i64 o, .int .i64 n, .int .i64 0] 27)
  generalize F.put b _ = F1 at hE_b hB_b ⊢
  ((conv => whnf); repeat (first | (apply load_at; (conv => lhs; whnf); (with_reducible assumption); rfl; (conv => whnf)) | (apply load_at; (conv => lhs; rw [add_plain, add_plain]); (with_reducible assumption); rfl; (conv => whnf)) | (apply loads_at; (conv => lhs; whnf); (with_reducible assumption); rfl; (conv => whnf)) | (refine ⟨⟨by omega, by omega⟩, ?_⟩; (conv => whnf))))
  exact ⟨rfl, hE_b⟩
theorem idxFn (m : List LnD) (hz : ∀ x ∈ m, x.a = 0) (A : Option Addr) (c : Nat) (F : Heap) (hr : RowAt F A (rowS lnC m)) (hl : m.length ≤ 100000) :
    FnK Try.prog 24 #[.slice A m.length c, .func (.func 19) #[] #[]] F (fun v F' => v = .int .i64 (-1) ∧ Ext F F') := by
  (refine fn_walk tab_ok Try.func24 rfl rfl rfl rfl ?_; (conv => whnf))
  refine loop_slots [0, 1, 7, 8] (fun k vs F' => ∃ j : Nat, j + k = m.length ∧ vs = [.slice A m.length c, .func (.func 19) #[] #[], .int .i64 (m.length : Int), .int .i64 (j : Int)] ∧ Ext F F') m.length ⟨0, by omega, rfl, Ext.refl _⟩ ?_
  rintro k vs F1 ρ ⟨j, hjk, rfl, hE⟩
  ((conv => whnf); repeat (first | (apply load_at; (conv => lhs; whnf); (with_reducible assumption); rfl; (conv => whnf)) | (apply load_at; (conv => lhs; rw [add_plain, add_plain]); (with_reducible assumption); rfl; (conv => whnf)) | (apply loads_at; (conv => lhs; whnf); (with_reducible assumption); rfl; (conv => whnf)) | (refine ⟨⟨by omega, by omega⟩, ?_⟩; (conv => whnf))))
  refine cond_split (fun h => ?_) (fun h => ?_)
  · have hj : j < m.length := by have := of_decide_eq_true (show decide ((j : Int) < (m.length : Int)) = true from h); omega
    clear h
    have hj1 : IntKind.i64.wrap ((j : Int) + 1) = ((j + 1 : Nat) : Int) := wrap_succ (j := j) (by omega)
    have hx : m[j]? = some m[j] := List.getElem?_eq_getElem hj
    have hn := noughtFn m[j] (hz _ (List.getElem_mem hj)) F1
    generalize m[j] = x at hx hn
    obtain ⟨ad, rfl⟩ := hr.some (by rw [rowS_len lnC_len]; omega)
    have hL : ∀ K : Value → Prop, K (lnV x) → LoadsK F1 (ad.add (Int.toNat (j : Int) * 4)) 4 K := fun K hk => rowS_loads lnC_len (by decide) (hr.mono hE) hx hk
    ((conv => whnf); repeat (first | (apply load_at; (conv => lhs; whnf); (with_reducible assumption); rfl; (conv => whnf)) | (apply load_at; (conv => lhs; rw [add_plain, add_plain]); (with_reducible assumption); rfl; (conv => whnf)) | (apply loads_at; (conv => lhs; whnf); (with_reducible assumption); rfl; (conv => whnf)) | (refine ⟨⟨by omega, by omega⟩, ?_⟩; (conv => whnf))))
    refine hL _ ?_
    ((conv => whnf); repeat (first | (apply load_at; (conv => lhs; whnf); (with_reducible assumption); rfl; (conv => whnf)) | (apply load_at; (conv => lhs; rw [add_plain, add_plain]); (with_reducible assumption); rfl; (conv => whnf)) | (apply loads_at; (conv => lhs; whnf); (with_reducible assumption); rfl; (conv => whnf)) | (refine ⟨⟨by omega, by omega⟩, ?_⟩; (conv => whnf))))
    refine call_of hn ?_
    rintro v F2 ⟨rfl, hE2⟩
    ((conv => whnf); repeat (first | (apply load_at; (conv => lhs; whnf); (with_reducible assumption); rfl; (conv => whnf)) | (apply load_at; (conv => lhs; rw [add_plain, add_plain]); (with_reducible assumption); rfl; (conv => whnf)) | (apply loads_at; (conv => lhs; whnf); (with_reducible assumption); rfl; (conv => whnf)) | (refine ⟨⟨by omega, by omega⟩, ?_⟩; (conv => whnf))))
    refine ⟨k - 1, by omega, j + 1, by omega, ?_, hE.trans hE2⟩
    exact Eq.trans (b := [.slice (some ad) m.length c, .func (.func 19) #[] #[], .int .i64 (m.length : Int), .int .i64 (IntKind.i64.wrap ((j : Int) + 1))]) rfl (by rw [hj1])
  · ((conv => whnf); repeat (first | (apply load_at; (conv => lhs; whnf); (with_reducible assumption); rfl; (conv => whnf)) | (apply load_at; (conv => lhs; rw [add_plain, add_plain]); (with_reducible assumption); rfl; (conv => whnf)) | (apply loads_at; (conv => lhs; whnf); (with_reducible assumption); rfl; (conv => whnf)) | (refine ⟨⟨by omega, by omega⟩, ?_⟩; (conv => whnf))))
    exact ⟨rfl, hE⟩
theorem equalF (l : List LnD) (hz : ∀ x ∈ fundsS l, x.a = 0) (A : Option Addr) (c : Nat) (F : Heap) (hr : RowAt F A (rowS lnC l)) (hl : l.length ≤ 1000) (hwa : ∀ x ∈ l, IntKind.i64.wrap x.a = x.a) :
    FnK Try.prog 12 #[.slice A l.length c] F (fun v F' => v = .bool true ∧ Ext F F') := by
  have k1 := funds l A c F hr hl hwa
  have hfl := funds_len l
  generalize fundsS l = m at k1 hz hfl
  (refine fn_walk tab_ok Try.func12 rfl rfl rfl rfl ?_; (conv => whnf))
  refine call_of k1 ?_
  rintro v F1 hM
  obtain ⟨A1, c1, rfl, _, hr1⟩ := hM.own.row
  have k2 := idxFn m hz A1 c1 F1 hr1 (by omega)
  have k3 : FnK Try.prog 18 #[.slice A1 m.length c1, .func (.func 19) #[] #[]] F1 (fun v F' => v = .bool false ∧ Ext F1 F') := by
    (refine fn_walk tab_ok Try.func18 rfl rfl rfl rfl ?_; (conv => whnf))
    refine call_of k2 ?_
    rintro v F2 ⟨rfl, hE⟩
    ((conv => whnf); repeat (first | (apply load_at; (conv => lhs; whnf); (with_reducible assumption); rfl; (conv => whnf)) | (apply load_at; (conv => lhs; rw [add_plain, add_plain]); (with_reducible assumption); rfl; (conv => whnf)) | (apply loads_at; (conv => lhs; whnf); (with_reducible assumption); rfl; (conv => whnf)) | (refine ⟨⟨by omega, by omega⟩, ?_⟩; (conv => whnf))))
    exact ⟨rfl, hE⟩
  ((conv => whnf); repeat (first | (apply load_at; (conv => lhs; whnf); (with_reducible assumption); rfl; (conv => whnf)) | (apply load_at; (conv => lhs; rw [add_plain, add_plain]); (with_reducible assumption); rfl; (conv => whnf)) | (apply loads_at; (conv => lhs; whnf); (with_reducible assumption); rfl; (conv => whnf)) | (refine ⟨⟨by omega, by omega⟩, ?_⟩; (conv => whnf))))
  refine call_of k3 ?_
  rintro v F2 ⟨rfl, hE⟩
  ((conv => whnf); repeat (first | (apply load_at; (conv => lhs; whnf); (with_reducible assumption); rfl; (conv => whnf)) | (apply load_at; (conv => lhs; rw [add_plain, add_plain]); (with_reducible assumption); rfl; (conv => whnf)) | (apply loads_at; (conv => lhs; whnf); (with_reducible assumption); rfl; (conv => whnf)) | (refine ⟨⟨by omega, by omega⟩, ?_⟩; (conv => whnf))))
  exact ⟨rfl, hM.ext.trans hE⟩
theorem requalF (l : List LnD) (hz : ∀ x ∈ fundsS l, x.a = 0) (A : Option Addr) (c : Nat) (F : Heap) (hr : RowAt F A (rowS lnC l)) (hl : l.length ≤ 1000) :
    FnK Try.prog 13 #[.slice A l.length c] F (fun v F' => v = .bool true ∧ Ext F F') := by
  have k1 := rFunds l A c F hr (by omega)
  have hfl := funds_len l
  generalize fundsS l = m at k1 hz hfl
  (refine fn_walk tab_ok Try.func13 rfl rfl rfl rfl ?_; (conv => whnf))
  refine call_of k1 ?_
  rintro v F1 hM
  obtain ⟨A1, c1, rfl, _, hr1⟩ := hM.own.row
  ((conv => whnf); repeat (first | (apply load_at; (conv => lhs; whnf); (with_reducible assumption); rfl; (conv => whnf)) | (apply load_at; (conv => lhs; rw [add_plain, add_plain]); (with_reducible assumption); rfl; (conv => whnf)) | (apply loads_at; (conv => lhs; whnf); (with_reducible assumption); rfl; (conv => whnf)) | (refine ⟨⟨by omega, by omega⟩, ?_⟩; (conv => whnf))))
  refine loop_slots [3, 4] (fun k vs F' => ∃ j : Nat, j + k = m.length ∧ vs = [.slice A1 m.length c1, .int .i64 (j : Int)] ∧ F1 = F') m.length ⟨0, by omega, rfl, rfl⟩ ?_
  rintro k vs F2 ρ ⟨j, hjk, rfl, rfl⟩
  ((conv => whnf); repeat (first | (apply load_at; (conv => lhs; whnf); (with_reducible assumption); rfl; (conv => whnf)) | (apply load_at; (conv => lhs; rw [add_plain, add_plain]); (with_reducible assumption); rfl; (conv => whnf)) | (apply loads_at; (conv => lhs; whnf); (with_reducible assumption); rfl; (conv => whnf)) | (refine ⟨⟨by omega, by omega⟩, ?_⟩; (conv => whnf))))
  refine cond_split (fun h => ?_) (fun h => ?_)
  · have hj : j < m.length := by have := of_decide_eq_true (show decide ((j : Int) < (m.length : Int)) = true from h); omega
    clear h
    have hj1 : IntKind.i64.wrap ((j : Int) + 1) = ((j + 1 : Nat) : Int) := wrap_succ (j := j) (by omega)
    have hx : m[j]? = some m[j] := List.getElem?_eq_getElem hj
    have h0 := hz m[j] (List.getElem_mem hj)
    generalize m[j] = x at hx h0
    obtain ⟨ad, rfl⟩ := hr1.some (by rw [rowS_len lnC_len]; omega)
    have ca := rowS_cell lnC_len hr1 hx (q := 3) rfl
    rw [h0] at ca
    ((conv => whnf); repeat (first | (apply load_at; (conv => lhs; whnf); (with_reducible assumption); rfl; (conv => whnf)) | (apply load_at; (conv => lhs; rw [add_plain, add_plain]); (with_reducible assumption); rfl; (conv => whnf)) | (apply loads_at; (conv => lhs; whnf); (with_reducible assumption); rfl; (conv => whnf)) | (refine ⟨⟨by omega, by omega⟩, ?_⟩; (conv => whnf))))
    refine load_step ca ?_
    ((conv => whnf); repeat (first | (apply load_at; (conv => lhs; whnf); (with_reducible assumption); rfl; (conv => whnf)) | (apply load_at; (conv => lhs; rw [add_plain, add_plain]); (with_reducible assumption); rfl; (conv => whnf)) | (apply loads_at; (conv => lhs; whnf); (with_reducible assumption); rfl; (conv => whnf)) | (refine ⟨⟨by omega, by omega⟩, ?_⟩; (conv => whnf))))
    refine ⟨k - 1, by omega, j + 1, by omega, ?_, rfl⟩
    exact Eq.trans (b := [.slice (some ad) m.length c1, .int .i64 (IntKind.i64.wrap ((j : Int) + 1))]) rfl (by rw [hj1])
  · ((conv => whnf); repeat (first | (apply load_at; (conv => lhs; whnf); (with_reducible assumption); rfl; (conv => whnf)) | (apply load_at; (conv => lhs; rw [add_plain, add_plain]); (with_reducible assumption); rfl; (conv => whnf)) | (apply loads_at; (conv => lhs; whnf); (with_reducible assumption); rfl; (conv => whnf)) | (refine ⟨⟨by omega, by omega⟩, ?_⟩; (conv => whnf))))
    exact ⟨rfl, hM.ext⟩
end Go.Proofs.Ytpbpjmnnbmjmbaa.Al

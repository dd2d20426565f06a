/- With what is otherwise the one list is the other one: in plain Lean. -/
import Derived.Test.YtlkdbmoocajjlaaDfN
namespace Go.Proofs.Ytlkdbmoocajjlaa.Al
open Go Go.Al Go.Proofs Go.RowKit
set_option maxHeartbeats 8000000
set_option linter.unusedVariables false
set_option linter.unusedSimpArgs false
theorem getL_put (p : PD) (k : List UInt8) : ∀ l : List PD, getL (putL' l p) k = if p.1 = k then some p.2 else getL l k
  | [] => rfl
  | x :: l => by
    show getL (if ltB x.1 p.1 = true then x :: putL' l p else if x.1 = p.1 then p :: l else p :: x :: l) k = _
    split
    · next e =>
      rw [getL_cons, getL_cons, getL_put p k l]
      by_cases h : x.1 = k
      · rw [if_pos h, if_neg (fun h2 => ltB_ne e (h.trans h2.symm)), if_pos h]
      · rw [if_neg h, if_neg h]
    · next e =>
      split
      · next e2 =>
        rw [getL_cons, getL_cons]
        by_cases h : p.1 = k
        · rw [if_pos h, if_pos h]
        · rw [if_neg h, if_neg h, if_neg (fun h2 => h (e2.symm.trans h2))]
      · rfl
theorem getL_mem {k v : List UInt8} : ∀ {l : List PD}, getL l k = some v → ∃ p ∈ l, p.1 = k ∧ p.2 = v
  | [], h => by cases h
  | x :: l, h => by
    rw [getL_cons] at h
    split at h
    · next e => exact ⟨x, List.mem_cons_self, e, Option.some.inj h⟩
    · obtain ⟨p, h1, h2⟩ := getL_mem h
      exact ⟨p, List.mem_cons_of_mem _ h1, h2⟩
theorem getL_no {k : List UInt8} : ∀ {l : List PD}, (∀ p ∈ l, p.1 ≠ k) → getL l k = none
  | [], _ => rfl
  | x :: l, h => by
    rw [getL_cons, if_neg (h x List.mem_cons_self)]
    exact getL_no fun p hp => h p (List.mem_cons_of_mem _ hp)
theorem getL_head {p : PD} {l : List PD} (h : RisL (p :: l)) : getL l p.1 = none :=
  getL_no fun q hq e => ltB_ne ((ris_cons.1 h).1 q hq) e.symm
theorem getL_of_mem {p : PD} : ∀ {l : List PD}, RisL l → p ∈ l → getL l p.1 = some p.2
  | [], _, h => by cases h
  | x :: l, hr, h => by
    rw [getL_cons]
    obtain ⟨h1, h2⟩ := ris_cons.1 hr
    rcases List.mem_cons.1 h with rfl | h
    · rw [if_pos rfl]
    · rw [if_neg (ltB_ne (h1 p h))]
      exact getL_of_mem h2 h
theorem getL_key (g : List UInt8 → Bool) (k : List UInt8) : ∀ l : List PD, getL (l.filter fun p => g p.1) k = if g k = true then getL l k else none
  | [] => by split <;> rfl
  | x :: l => by
    rw [List.filter_cons]
    have ih := getL_key g k l
    by_cases h : g x.1 = true
    · rw [if_pos h, getL_cons, getL_cons, ih]
      by_cases e : x.1 = k
      · rw [if_pos e, if_pos e, if_pos (by rw [← e]; exact h)]
      · rw [if_neg e, if_neg e]
    · rw [if_neg h, ih, getL_cons]
      by_cases e : x.1 = k
      · rw [if_neg (by rw [← e]; exact h), if_neg (by rw [← e]; exact h)]
      · rw [if_neg e]
theorem getL_filter (f : PD → Bool) (k : List UInt8) : ∀ l : List PD, RisL l → getL (l.filter f) k = match getL l k with | some v => if f (k, v) = true then some v else none | none => none
  | [], _ => rfl
  | x :: l, hr => by
    have ih := getL_filter f k l (ris_cons.1 hr).2
    have hh := getL_head hr
    rw [List.filter_cons, getL_cons]
    by_cases e : x.1 = k
    · subst e
      rw [if_pos rfl]
      rw [hh] at ih
      split
      · next h => rw [getL_cons, if_pos rfl]; exact (if_pos h).symm
      · next h => rw [ih]; exact (if_neg h).symm
    · rw [if_neg e]
      split
      · rw [getL_cons, if_neg e, ih]
      · exact ih
theorem getL_fold (k : List UInt8) : ∀ (ps l : List PD), RisL ps → getL (ps.foldl putL' l) k = match getL ps k with | some v => some v | none => getL l k
  | [], l, _ => rfl
  | p :: ps, l, hr => by
    have ih := getL_fold k ps (putL' l p) (ris_cons.1 hr).2
    show getL (ps.foldl putL' (putL' l p)) k = _
    rw [ih, getL_put, getL_cons]
    by_cases e : p.1 = k
    · subst e
      rw [getL_head hr, if_pos rfl, if_pos rfl]
    · rw [if_neg e, if_neg e]
theorem fold_ris : ∀ (ps l : List PD), RisL l → RisL (ps.foldl putL' l)
  | [], l, h => h
  | p :: ps, l, h => fold_ris ps _ (putL_ris p l h)
theorem ris_filter {l : List PD} (h : RisL l) (f : PD → Bool) : RisL (l.filter f) := List.Pairwise.sublist (List.filter_sublist.map Prod.fst) h
theorem getL_ext : ∀ {a b : List PD}, RisL a → RisL b → (∀ k, getL a k = getL b k) → a = b
  | [], [], _, _, _ => rfl
  | [], q :: b, _, _, h => by have := h q.1; rw [getL_cons, if_pos rfl] at this; cases this
  | p :: a, [], _, _, h => by have := h p.1; rw [getL_cons, if_pos rfl] at this; cases this
  | p :: a, q :: b, ha, hb, h => by
    have h1 := h p.1
    have h2 := h q.1
    rw [getL_cons, if_pos rfl] at h1
    rw [getL_cons (p := q), if_pos rfl] at h2
    have e : p.1 = q.1 := by
      obtain ⟨x, hx, hx1, _⟩ := getL_mem h1.symm
      obtain ⟨y, hy, hy1, _⟩ := getL_mem h2
      rcases List.mem_cons.1 hx with rfl | hx
      · exact hx1.symm
      · rcases List.mem_cons.1 hy with rfl | hy
        · exact hy1
        · have l1 := (ris_cons.1 hb).1 x hx
          have l2 := (ris_cons.1 ha).1 y hy
          rw [hx1] at l1
          rw [hy1] at l2
          rw [ltB_asymm l1] at l2
          cases l2
    rw [getL_cons, if_pos e.symm] at h1
    have hpq : p = q := Prod.ext e (Option.some.inj h1)
    subst hpq
    have ht : a = b := getL_ext (ris_cons.1 ha).2 (ris_cons.1 hb).2 fun k => by
      by_cases ek : p.1 = k
      · subst ek
        rw [getL_head ha, getL_head hb]
      · have := h k
        rw [getL_cons, if_neg ek, getL_cons, if_neg ek] at this
        exact this
    rw [ht]
theorem risL_iff (l : List PD) : risL l = true ↔ RisL l := risB_iff _
theorem between_self {x : List PD} (h : RisL x) : betweenP x x = [] ∧ betweenD x x = [] := by
  have hr : (risL x && risL x) = true := by rw [(risL_iff x).2 h]; rfl
  unfold betweenP betweenD
  rw [if_pos hr, if_pos hr]
  constructor
  · rw [List.filter_eq_nil_iff]
    intro p hp
    unfold newP
    rw [getL_of_mem h hp, beq_self_eq_true]
    decide
  · rw [List.map_eq_nil_iff, List.filter_eq_nil_iff]
    intro p hp
    unfold goneP
    rw [getL_of_mem h hp]
    exact Bool.false_ne_true
theorem apply_between {x y : List PD} (hx : RisL x) (hy : RisL y) : applyL x (betweenP x y) (betweenD x y) = y := by
  have hr : (risL x && risL y) = true := by rw [(risL_iff x).2 hx, (risL_iff y).2 hy]; rfl
  unfold applyL betweenP betweenD
  rw [if_pos ((risL_iff x).2 hx), if_pos hr, if_pos hr, delsL_eq]
  have hP : RisL (y.filter (newP x)) := ris_filter hy _
  refine getL_ext (fold_ris _ _ (ris_filter hx _)) hy fun k => ?_
  rw [getL_fold k _ _ hP, getL_filter _ k y hy, getL_key (fun q => !((x.filter (goneP y)).map Prod.fst).any fun k => k == q) k x]
  cases hg : getL y k with
  | some v =>
    dsimp only
    by_cases hn : getL x k = some v
    · have hnp : ¬ newP x (k, v) = true := by unfold newP; rw [show getL x (k, v).1 = some v from hn, beq_self_eq_true]; decide
      rw [if_neg hnp]
      have hk : (!((x.filter (goneP y)).map Prod.fst).any fun q => q == k) = true := by
        rw [Bool.not_eq_true', List.any_eq_false]
        intro q hq e
        obtain ⟨p, hp, rfl⟩ := List.mem_map.1 hq
        have hgp := (List.mem_filter.1 hp).2
        unfold goneP at hgp
        rw [beq_iff_eq.1 e, hg] at hgp
        cases hgp
      dsimp only
      rw [if_pos hk, hn]
    · have hnp : newP x (k, v) = true := by
        unfold newP
        rw [Bool.not_eq_true', beq_eq_false_iff_ne]
        exact hn
      rw [if_pos hnp]
  | none =>
    dsimp only
    cases hw : getL x k with
    | none => split <;> rfl
    | some w =>
      obtain ⟨p, hp, hp1, _⟩ := getL_mem hw
      have hk : ¬ (!((x.filter (goneP y)).map Prod.fst).any fun q => q == k) = true := by
        rw [Bool.not_eq_true', Bool.not_eq_false, List.any_eq_true]
        exact ⟨p.1, List.mem_map.2 ⟨p, List.mem_filter.2 ⟨hp, by unfold goneP; rw [hp1, hg]; rfl⟩, rfl⟩, by rw [hp1]; exact beq_self_eq_true k⟩
      rw [if_neg hk]
theorem rising_ris (l : List PD) : RisL (risingL l) := fold_ris l [] List.Pairwise.nil
end Go.Proofs.Ytlkdbmoocajjlaa.Al

/- Disks: what is safe, in plain Lean. -/
import Derived.Test.YtlkdbmoocajjlaaDskOpen
namespace Go.Proofs.Ytlkdbmoocajjlaa.Al
open Go Go.Al Go.Proofs Go.RowKit
set_option maxHeartbeats 8000000
set_option linter.unusedVariables false
set_option linter.unusedSimpArgs false
theorem Moves.stay {D F D' F' : Heap} (h : Moves D F D' F') {c : Nat} {o : Obj} (hc : F c = some o) (hd : D c = none) : F' c = some o ∧ D' c = none := by
  refine ⟨h.out c o hc hd, ?_⟩
  cases e : D' c with
  | none => rfl
  | some u =>
    rcases h.new c (by rw [e]; simp) with h1 | h1
    · exact absurd hd h1
    · rw [h1] at hc; cases hc
theorem Moves.side {F D F' : Heap} (h : Moves emptyH F D F') {p : Nat} (hp : F p = none) (hd : D p = none) (o : Obj) : Moves emptyH F D (F'.put p o) :=
  ⟨h.inn.put hd o, (fun c u hc _ => by
    have hne : c ≠ p := fun e => by subst e; rw [hp] at hc; cases hc
    rw [Heap.put_other _ _ hne]; exact h.out c u hc rfl), h.new⟩
def safB (s : DS) (i : Int) : List UInt8 := match s.safe i with | some l => l | none => List.replicate 256 0
theorem secB_some {s : DS} {i : Int} {l : List UInt8} (h : s.fresh i = some l) : secB s i = l := by unfold secB; rw [h]
theorem secB_none {s : DS} {i : Int} (h : s.fresh i = none) : secB s i = safB s i := by unfold secB; rw [h]; rfl
structure DkCalm (s : DS) (j : Nat) : Prop where
  sz : s.size = 16
  ar : s.armed = false
  dn : s.down = false
  wr : s.writes = (j : Int)
theorem safe_step {s : DS} {j : Nat} (h : DkCalm s j) {i : Int} (hi : 0 ≤ i ∧ i < 16) {l : List UInt8} (hl : l.length = 256) :
    DkCalm (writeS s i l) (j + 1) ∧ (∀ k, secB (writeS s i l) k = if k = i then l else secB s k) ∧ (∀ k, safB (writeS s i l) k = safB s k) := by
  have hd : ¬ (s.down = true ∨ ¬ (0 ≤ i ∧ i < s.size) ∨ l.length ≠ 256) := by
    rw [h.dn, h.sz]
    rintro (e | e | e)
    · cases e
    · exact e hi
    · exact e hl
  have hb : burnOk s.armed s.left = true := by rw [h.ar]; rfl
  unfold writeS
  rw [if_neg hd, if_pos hb]
  refine ⟨⟨h.sz, h.ar, h.dn, ?_⟩, fun k => ?_, fun k => rfl⟩
  · show s.writes + 1 = _
    rw [h.wr]; omega
  · unfold secB updF
    dsimp only
    by_cases e : k = i
    · rw [if_pos e, if_pos e]
    · rw [if_neg e, if_neg e]
theorem idxI_lt : ∀ (l : List Int) (n : Int) (i : Nat), idxI l n i ≥ 0 → (i : Int) ≤ idxI l n i := by
  intro l
  induction l with
  | nil => intro n i h; exact absurd h (by show ¬ ((-1 : Int) ≥ 0); decide)
  | cons x l ih =>
    intro n i h
    rw [idxI_cons] at h ⊢
    split
    · exact Int.le_refl _
    · next hne =>
      rw [if_neg hne] at h
      have := ih n (i + 1) h
      omega
theorem idxI_mem (l : List Int) (n : Int) (i : Nat) : idxI l n i ≥ 0 ↔ n ∈ l := decide_eq_decide.1 (idxI_ge l n i)
theorem setl_at (kp : Nat → Bool) (f : Int → Option (List UInt8)) : ∀ (l : List Int) (j : Nat) (sf : Int → Option (List UInt8)) (k : Int), l.Nodup → setl kp f l j sf k = if idxI l k j ≥ 0 ∧ kp (idxI l k j).toNat = true then f k else sf k := by
  intro l
  induction l with
  | nil =>
    intro j sf k _
    rw [if_neg (by rintro ⟨h, _⟩; exact absurd h (by show ¬ ((-1 : Int) ≥ 0); decide))]
    rfl
  | cons x l ih =>
    intro j sf k hn
    obtain ⟨h1, h2⟩ := List.nodup_cons.1 hn
    rw [setl_cons, ih (j + 1) _ k h2, idxI_cons]
    by_cases e : k = x
    · subst e
      have hnot : ¬ (idxI l k (j + 1) ≥ 0) := fun h => h1 ((idxI_mem l k (j + 1)).1 h)
      rw [if_neg (fun h => hnot h.1), if_pos rfl, Int.toNat_natCast]
      by_cases hk : kp j = true
      · rw [if_pos hk, if_pos ⟨by omega, hk⟩]
        unfold updF
        rw [if_pos rfl]
      · rw [if_neg hk, if_neg (fun h => hk h.2)]
    · rw [if_neg e]
      have : (if kp j = true then updF sf x (f x) else sf) k = sf k := by
        split
        · unfold updF; rw [if_neg e]
        · rfl
      rw [this]
theorem flush_calm {s : DS} {j : Nat} (h : DkCalm s j) (hw : DWf s) : DkCalm (flushS s) j ∧ (∀ k, secB (flushS s) k = secB s k) ∧ (∀ k, safB (flushS s) k = secB s k) := by
  have hd : ¬ s.down = true := by rw [h.dn]; decide
  unfold flushS
  rw [if_neg hd]
  have hs : ∀ k, safB (settleS s fun _ => true) k = secB s k := fun k => by
    have := setl_at (fun _ => true) s.fresh s.order 0 s.safe k hw.nod
    unfold safB settleS
    dsimp only
    rw [this]
    by_cases hm : k ∈ s.order
    · rw [if_pos ⟨(idxI_mem _ _ _).2 hm, rfl⟩]
      cases e : s.fresh k with
      | none => exact absurd e ((hw.fr k).1 hm)
      | some l => rw [secB_some e]
    · rw [if_neg (fun h => hm ((idxI_mem _ _ _).1 h.1))]
      cases e : s.fresh k with
      | none => rw [secB_none e]; rfl
      | some l => exact absurd ((hw.fr k).2 (by rw [e]; simp)) hm
  exact ⟨⟨h.sz, h.ar, h.dn, h.wr⟩, fun k => (secB_none (s := settleS s fun _ => true) rfl).trans (hs k), hs⟩
theorem crash_read {s : DS} {j : Nat} (h : DkCalm s j) (hw : DWf s) (keep : List Int) (k : Int) (hk : 0 ≤ k ∧ k < 16) :
    readE (crashS s keep) k = 0 ∧ readL (crashS s keep) k = if idxI s.order k 0 ≥ 0 ∧ idxI s.order k 0 ∈ keep then secB s k else safB s k := by
  have h1 : ¬ (crashS s keep).down = true := by show ¬ false = true; decide
  have h2 : ¬ ¬ (0 ≤ k ∧ k < (crashS s keep).size) := by
    rw [show (crashS s keep).size = 16 from h.sz]
    exact fun e => e hk
  refine ⟨by unfold readE; rw [if_neg h1, if_neg h2], ?_⟩
  unfold readL
  rw [if_neg (by rintro (e | e); exact h1 e; exact h2 e), secB_none (s := crashS s keep) rfl]
  have := setl_at (fun j => decide ((j : Int) ∈ keep)) s.fresh s.order 0 s.safe k hw.nod
  unfold safB
  show (match setl (fun j => decide ((j : Int) ∈ keep)) s.fresh s.order 0 s.safe k with | some l => l | none => List.replicate 256 0) = _
  rw [this]
  by_cases hm : idxI s.order k 0 ≥ 0
  · by_cases hk2 : idxI s.order k 0 ∈ keep
    · rw [if_pos ⟨hm, by rw [Int.toNat_of_nonneg hm]; exact decide_eq_true hk2⟩, if_pos ⟨hm, hk2⟩]
      cases e : s.fresh k with
      | none => exact absurd e ((hw.fr k).1 ((idxI_mem _ _ _).1 hm))
      | some l => rw [secB_some e]
    · rw [if_neg (fun e => hk2 (by have := e.2; rw [Int.toNat_of_nonneg hm] at this; exact of_decide_eq_true this)), if_neg (fun e => hk2 e.2)]
  · rw [if_neg (fun e => hm e.1), if_neg (fun e => hm e.1)]
/-- What the arrays say. -/
def Says (g : Int → List UInt8) (l : List UInt8) : Prop := l.length = 16 ∧ ∀ k : Nat, k < 16 → g k = List.replicate 256 (l.getD k 0)
theorem Says.set {g g' : Int → List UInt8} {l : List UInt8} (h : Says g l) {i : Nat} (hi : i < 16) (x : UInt8) (hg : ∀ k, g' k = if k = (i : Int) then List.replicate 256 x else g k) : Says g' (l.set i x) := by
  refine ⟨by rw [List.length_set]; exact h.1, fun k hk => ?_⟩
  rw [hg]
  by_cases e : k = i
  · subst e
    rw [if_pos rfl]
    simp [List.getD, h.1, hi]
  · rw [if_neg (by omega), h.2 k hk]
    simp [List.getD, List.getElem?_set, Ne.symm e]
theorem Says.congr {g g' : Int → List UInt8} {l : List UInt8} (h : Says g l) (hg : ∀ k, g' k = g k) : Says g' l := ⟨h.1, fun k hk => by rw [hg]; exact h.2 k hk⟩
end Go.Proofs.Ytlkdbmoocajjlaa.Al

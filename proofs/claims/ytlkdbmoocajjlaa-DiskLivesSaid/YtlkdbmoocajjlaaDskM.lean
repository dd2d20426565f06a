/- Disks: the program's and the reference's go together, in plain Lean. -/
import Derived.Test.YtlkdbmoocajjlaaDskL
import Derived.Test.YtlkdbmoocajjlaaDskSafe
namespace Go.Proofs.Ytlkdbmoocajjlaa.Al
open Go Go.Al Go.Proofs Go.RowKit
set_option maxHeartbeats 8000000
set_option linter.unusedVariables false
set_option linter.unusedSimpArgs false
structure SimO (s : DS) (j : Nat) (o : OD) : Prop where
  f : (o.t = 0 ∧ s.fresh (j : Int) = none ∧ o.l = o.s) ∨ (0 < o.t ∧ s.order[(o.t - 1).toNat]? = some (j : Int) ∧ s.fresh (j : Int) = some o.l ∧ o.l.length = 256)
  k : (s.safe (j : Int) = none ∧ o.s = []) ∨ (s.safe (j : Int) = some o.s ∧ o.s.length = 256)
structure Sim (s : DS) (r : RS) : Prop where
  sz : s.size = (r.L.length : Int)
  ar : s.armed = r.armed
  lf : s.left = r.arm
  dn : s.down = r.down
  wr : s.writes = r.done
  tn : r.turn = (s.order.length : Int)
  el : ∀ j o, r.L[j]? = some o → SimO s j o
theorem sim_new (n : Nat) : Sim (newS (n : Int)) (newR n) := by
  refine ⟨by show (n : Int) = _; rw [show (newR n).L = List.replicate n ⟨[], [], 0⟩ from rfl, List.length_replicate], rfl, rfl, rfl, rfl, rfl, fun j o h => ?_⟩
  have h : (List.replicate n (⟨[], [], 0⟩ : OD))[j]? = some o := h
  rw [List.getElem?_replicate] at h
  split at h
  · cases h
    exact ⟨.inl ⟨rfl, rfl, rfl⟩, .inl ⟨rfl, rfl⟩⟩
  · cases h
theorem sim_read {s : DS} {r : RS} (h : Sim s r) (i : Int) : readE s i = rreadE r i ∧ readL s i = rreadL r i := by
  unfold readE rreadE readL rreadL
  rw [h.sz, h.dn]
  refine ⟨rfl, ?_⟩
  split
  · rfl
  · next hn =>
    have hi : 0 ≤ i ∧ i < (r.L.length : Int) := by
      by_cases e : 0 ≤ i ∧ i < (r.L.length : Int)
      · exact e
      · exact absurd (.inr e) hn
    obtain ⟨j, rfl⟩ : ∃ j : Nat, i = j := ⟨i.toNat, by omega⟩
    obtain ⟨o, ho⟩ : ∃ o, r.L[j]? = some o := ⟨_, List.getElem?_eq_getElem (by omega)⟩
    have hs := h.el j o ho
    have e : rsec r (j : Int) = fullB o.l := by unfold rsec; rw [Int.toNat_natCast, ho]
    rw [e]
    rcases hs.f with ⟨h1, h2, h3⟩ | ⟨h1, h2, h3, h4⟩
    · rw [secB_none h2, h3]
      unfold safB
      rcases hs.k with ⟨h5, h6⟩ | ⟨h5, h6⟩
      · rw [h5, h6]; rfl
      · rw [h5]
        unfold fullB
        rw [h6, Nat.sub_self]
        exact (List.append_nil _).symm
    · rw [secB_some h3]
      unfold fullB
      rw [h4, Nat.sub_self]
      exact (List.append_nil _).symm
theorem sim_write {s : DS} {r : RS} (h : Sim s r) (i : Int) (l : List UInt8) : writeE s i l = rwriteE r i l ∧ Sim (writeS s i l) (rwriteS r i l) := by
  have hb : (burnOk s.armed s.left = true) = ¬ (r.armed = true ∧ r.arm = 0) := by
    rw [h.ar, h.lf]
    unfold burnOk
    cases r.armed with
    | false => simp
    | true => simp
  unfold writeE rwriteE writeS rwriteS
  rw [h.sz, h.dn]
  by_cases hn : r.down = true ∨ ¬ (0 ≤ i ∧ i < (r.L.length : Int)) ∨ l.length ≠ 256
  · rw [if_pos hn, if_pos hn]
    refine ⟨?_, h⟩
    split
    · rfl
    · next hd => rw [if_pos (hn.resolve_left hd), if_pos (hn.resolve_left hd)]
  rw [if_neg hn, if_neg hn, if_neg (fun e => hn (.inl e)), if_neg (fun e => hn (.inr e)), if_neg (fun e => hn (.inl e)), if_neg (fun e => hn (.inr e))]
  by_cases ha : r.armed = true ∧ r.arm = 0
  · rw [if_pos ha, if_pos ha, if_neg (by rw [hb]; exact fun e => e ha), if_neg (by rw [hb]; exact fun e => e ha)]
    exact ⟨rfl, ⟨rfl, h.ar, h.lf, rfl, h.wr, h.tn, fun j o ho => ⟨(h.el j o ho).f, (h.el j o ho).k⟩⟩⟩
  rw [if_neg ha, if_neg ha, if_pos (by rw [hb]; exact ha), if_pos (by rw [hb]; exact ha)]
  refine ⟨rfl, ?_⟩
  have hl : l.length = 256 := by
    by_cases e : l.length = 256
    · exact e
    · exact absurd (.inr (.inr e)) hn
  have hi : 0 ≤ i ∧ i < (r.L.length : Int) := by
    by_cases e : 0 ≤ i ∧ i < (r.L.length : Int)
    · exact e
    · exact absurd (.inr (.inl e)) hn
  obtain ⟨j, rfl⟩ : ∃ j : Nat, i = j := ⟨i.toNat, by omega⟩
  have hj : j < r.L.length := by omega
  obtain ⟨o, ho⟩ : ∃ o, r.L[j]? = some o := ⟨_, List.getElem?_eq_getElem hj⟩
  have hs := h.el j o ho
  rw [Int.toNat_natCast, ho]
  have hfr : s.fresh (j : Int) = none ↔ o.t = 0 := by
    rcases hs.f with ⟨h1, h2, h3⟩ | ⟨h1, h2, h3, h4⟩
    · exact ⟨fun _ => h1, fun _ => h2⟩
    · exact ⟨fun e => (by rw [h3] at e; cases e), fun e => (by omega)⟩
  have htn := h.tn
  show Sim _ (rwriteO r o (j : Int) l)
  unfold rwriteO
  rw [Int.toNat_natCast]
  refine ⟨by show (r.L.length : Int) = ((r.L.set j _).length : Int); rw [List.length_set], h.ar, ?_, rfl, ?_, ?_, fun k p hp => ?_⟩
  · show (if s.armed = true then s.left - 1 else s.left) = if r.armed = true then r.arm - 1 else r.arm
    rw [h.ar, h.lf]
  · show s.writes + 1 = r.done + 1
    rw [h.wr]
  · show (if o.t = 0 then r.turn + 1 else r.turn) = ((if s.fresh (j : Int) = none then s.order ++ [(j : Int)] else s.order).length : Int)
    by_cases e : o.t = 0
    · rw [if_pos e, if_pos (hfr.2 e), List.length_append, htn]; rfl
    · rw [if_neg e, if_neg (fun x => e (hfr.1 x))]; exact htn
  · have hp : (r.L.set j ⟨o.s, l, if o.t = 0 then r.turn + 1 else o.t⟩)[k]? = some p := hp
    by_cases e : j = k
    · subst e
      rw [List.getElem?_set_self hj] at hp
      cases hp
      refine ⟨.inr ?_, hs.k⟩
      refine ⟨?_, ?_, ?_, hl⟩
      · show 0 < if o.t = 0 then r.turn + 1 else o.t
        split
        · omega
        · rcases hs.f with ⟨h1, _⟩ | ⟨h1, _⟩ <;> omega
      · show (if s.fresh (j : Int) = none then s.order ++ [(j : Int)] else s.order)[((if o.t = 0 then r.turn + 1 else o.t) - 1).toNat]? = _
        by_cases e : o.t = 0
        · rw [if_pos (hfr.2 e), if_pos e, htn, show ((s.order.length : Int) + 1 - 1).toNat = s.order.length by omega, List.getElem?_append_right (Nat.le_refl _), Nat.sub_self]
          rfl
        · rw [if_neg (fun x => e (hfr.1 x)), if_neg e]
          rcases hs.f with ⟨h1, _⟩ | ⟨_, h2, _⟩
          · exact absurd h1 e
          · exact h2
      · show updF s.fresh (j : Int) (some l) (j : Int) = _
        unfold updF
        rw [if_pos rfl]
    · rw [List.getElem?_set_ne e] at hp
      have hk := h.el k p hp
      refine ⟨?_, hk.k⟩
      have hu : updF s.fresh (j : Int) (some l) (k : Int) = s.fresh (k : Int) := by unfold updF; rw [if_neg (by omega)]
      rcases hk.f with ⟨h1, h2, h3⟩ | ⟨h1, h2, h3, h4⟩
      · exact .inl ⟨h1, hu.trans h2, h3⟩
      · refine .inr ⟨h1, ?_, hu.trans h3, h4⟩
        show (if s.fresh (j : Int) = none then s.order ++ [(j : Int)] else s.order)[(p.t - 1).toNat]? = _
        split
        · rw [List.getElem?_append_left (List.getElem?_eq_some_iff.1 h2).1]; exact h2
        · exact h2
theorem idxI_pos {l : List Int} (hn : l.Nodup) : ∀ {p : Nat} {k : Int} (i : Nat), l[p]? = some k → idxI l k i = ((i + p : Nat) : Int) := by
  induction l with
  | nil => intro p k i h; cases h
  | cons x l ih =>
    intro p k i h
    obtain ⟨h1, h2⟩ := List.nodup_cons.1 hn
    rw [idxI_cons]
    cases p with
    | zero =>
      have : x = k := by simpa using h
      rw [if_pos this.symm]
      rfl
    | succ p =>
      have h : l[p]? = some k := by simpa using h
      rw [if_neg (fun e => h1 (by rw [← e]; exact List.mem_of_getElem? h)), ih h2 (i + 1) h]
      congr 1
      omega
/-- Some of what was fresh is safe; the reference does the same to each sector. -/
theorem sim_settle {s : DS} {r : RS} (h : Sim s r) (hw : DWf s) (kp : Nat → Bool) (g : OD → OD) (hg : ∀ o, 0 ≤ o.t → g o = if 0 < o.t ∧ kp (o.t - 1).toNat = true then ⟨o.l, o.l, 0⟩ else ⟨o.s, o.s, 0⟩) :
    Sim (settleS s kp) { r with L := r.L.map g, turn := 0 } := by
  refine ⟨by show s.size = ((r.L.map g).length : Int); rw [List.length_map]; exact h.sz, h.ar, h.lf, h.dn, h.wr, rfl, fun j p hp => ?_⟩
  have hp : (r.L.map g)[j]? = some p := hp
  rw [List.getElem?_map] at hp
  obtain ⟨o, ho, rfl⟩ := Option.map_eq_some_iff.1 hp
  have hs := h.el j o ho
  have h0 : 0 ≤ o.t := by rcases hs.f with ⟨h1, _⟩ | ⟨h1, _⟩ <;> omega
  have hsf : (settleS s kp).safe (j : Int) = if 0 < o.t ∧ kp (o.t - 1).toNat = true then some o.l else s.safe (j : Int) := by
    show setl kp s.fresh s.order 0 s.safe (j : Int) = _
    rw [setl_at kp s.fresh s.order 0 s.safe (j : Int) hw.nod]
    rcases hs.f with ⟨h1, h2, h3⟩ | ⟨h1, h2, h3, h4⟩
    · rw [if_neg (by rintro ⟨e, _⟩; exact ((hw.fr j).1 ((idxI_mem _ _ _).1 e)) h2), if_neg (by omega)]
    · rw [idxI_pos hw.nod 0 h2, Int.toNat_natCast, Nat.zero_add, h3]
      by_cases e : kp (o.t - 1).toNat = true
      · rw [if_pos ⟨by omega, e⟩, if_pos ⟨h1, e⟩]
      · rw [if_neg (fun e2 => e e2.2), if_neg (fun e2 => e e2.2)]
  rw [hg o h0]
  by_cases e : 0 < o.t ∧ kp (o.t - 1).toNat = true
  · rw [if_pos e] at hsf ⊢
    refine ⟨.inl ⟨rfl, rfl, rfl⟩, .inr ⟨hsf, ?_⟩⟩
    rcases hs.f with ⟨h1, _⟩ | ⟨_, _, _, h4⟩
    · omega
    · exact h4
  · rw [if_neg e] at hsf ⊢
    refine ⟨.inl ⟨rfl, rfl, rfl⟩, ?_⟩
    rw [hsf]
    exact hs.k
theorem sim_flush {s : DS} {r : RS} (h : Sim s r) (hw : DWf s) : flushE s = (if r.down = true then 5 else 0) ∧ Sim (flushS s) (rflushS r) := by
  unfold flushE flushS rflushS
  rw [h.dn]
  refine ⟨rfl, ?_⟩
  split
  · exact h
  · have h2 : Sim (settleS s fun _ => true) { r with L := r.L.map fun o => if 0 < o.t ∧ (fun _ => true : Nat → Bool) (o.t - 1).toNat = true then ⟨o.l, o.l, 0⟩ else ⟨o.s, o.s, 0⟩, turn := 0 } := sim_settle h hw (fun _ => true) _ (fun o _ => rfl)
    have e : (r.L.map fun o : OD => if 0 < o.t ∧ (fun _ => true : Nat → Bool) (o.t - 1).toNat = true then (⟨o.l, o.l, 0⟩ : OD) else ⟨o.s, o.s, 0⟩) = r.L.map fl := List.map_congr_left fun o ho => by
      obtain ⟨j, hj⟩ := List.getElem?_of_mem ho
      have hs := h.el j o hj
      unfold fl
      rcases hs.f with ⟨h1, h2, h3⟩ | ⟨h1, h2, h3, h4⟩
      · rw [if_neg (by omega), if_neg (by omega)]
        obtain ⟨a, b, c⟩ := o
        simp at h1 h3
        subst h1 h3
        rfl
      · rw [if_pos ⟨h1, rfl⟩, if_pos h1]
    rw [e] at h2
    exact h2
theorem sim_crash {s : DS} {r : RS} (h : Sim s r) (hw : DWf s) (keep : List Int) : Sim (crashS s keep) (rcrashS r keep) := by
  have h2 := sim_settle h hw (fun j => decide ((j : Int) ∈ keep)) (cr keep) (fun o h0 => by
    unfold cr
    by_cases e : o.t > 0
    · have e2 : (((o.t - 1).toNat : Nat) : Int) = o.t - 1 := Int.toNat_of_nonneg (by omega)
      by_cases e3 : o.t - 1 ∈ keep
      · rw [if_pos ⟨e, e3⟩, if_pos ⟨e, by rw [e2]; exact decide_eq_true e3⟩]
      · rw [if_neg (fun x => e3 x.2), if_neg (fun x => e3 (by have := x.2; rw [e2] at this; exact of_decide_eq_true this))]
    · rw [if_neg (fun x => e x.1), if_neg (fun x => e x.1)])
  exact ⟨h2.sz, rfl, rfl, rfl, h2.wr, h2.tn, fun j o ho => ⟨(h2.el j o ho).f, (h2.el j o ho).k⟩⟩
theorem sim_arm {s : DS} {r : RS} (h : Sim s r) (i : Int) : Sim { s with armed := decide (i ≥ 0), left := max i 0 } { r with armed := decide (i ≥ 0), arm := max i 0 } :=
  ⟨h.sz, rfl, rfl, h.dn, h.wr, h.tn, fun j o ho => ⟨(h.el j o ho).f, (h.el j o ho).k⟩⟩
theorem idxs_none (t : Int) : ∀ (L : List OD) (i : Nat), (∀ o ∈ L, o.t ≠ t) → idxs t i L = []
  | [], i, _ => rfl
  | o :: L, i, h => by
    rw [idxs_cons, if_neg (h o List.mem_cons_self)]
    exact idxs_none t L (i + 1) fun p hp => h p (List.mem_cons_of_mem _ hp)
theorem idxs_one (t : Int) : ∀ (L : List OD) (i j : Nat), j < L.length → (∀ k o, L[k]? = some o → (o.t = t ↔ k = j)) → idxs t i L = [((i + j : Nat) : Int)]
  | [], i, j, hj, _ => absurd hj (Nat.not_lt_zero _)
  | o :: L, i, j, hj, h => by
    rw [idxs_cons]
    cases j with
    | zero =>
      rw [if_pos ((h 0 o rfl).2 rfl), idxs_none t L (i + 1)]
      · rfl
      · intro p hp e
        obtain ⟨k, hk⟩ := List.getElem?_of_mem hp
        have := (h (k + 1) p (by simpa using hk)).1 e
        omega
    | succ j =>
      rw [if_neg (fun e => by have := (h 0 o rfl).1 e; omega), idxs_one t L (i + 1) j (by simpa using hj) fun k p hp => ?_]
      · congr 2; omega
      · rw [h (k + 1) p (by simpa using hp)]
        omega
theorem sim_pending {s : DS} {r : RS} (h : Sim s r) (hw : DWf s) : rpendL r.L r.turn.toNat 1 = s.order := by
  have key : ∀ (n m : Nat), m + n = s.order.length → rpendL r.L n ((m + 1 : Nat) : Int) = s.order.drop m := by
    intro n
    induction n with
    | zero =>
      intro m hm
      rw [show m = s.order.length by omega, List.drop_length]
      rfl
    | succ n ih =>
      intro m hm
      have hm2 : m < s.order.length := by omega
      have hk : s.order[m]? = some s.order[m] := List.getElem?_eq_getElem hm2
      rw [List.drop_eq_getElem_cons hm2]
      have hr := hw.inr _ (List.mem_of_getElem? hk)
      have hf := (hw.fr _).1 (List.mem_of_getElem? hk)
      generalize s.order[m] = i at hk hr hf
      obtain ⟨j, rfl⟩ : ∃ j : Nat, i = j := ⟨i.toNat, by omega⟩
      have hj : j < r.L.length := by have := h.sz; omega
      have hone : idxs ((m + 1 : Nat) : Int) 0 r.L = [((0 + j : Nat) : Int)] := idxs_one _ r.L 0 j hj fun k o ho => by
        have hs := h.el k o ho
        constructor
        · intro e
          rcases hs.f with ⟨h1, h2, h3⟩ | ⟨h1, h2, h3, h4⟩
          · omega
          · rw [show (o.t - 1).toNat = m by omega, hk] at h2
            have := Option.some.inj h2
            omega
        · intro e
          subst e
          rcases hs.f with ⟨h1, h2, h3⟩ | ⟨h1, h2, h3, h4⟩
          · exact absurd h2 hf
          · have h5 := idxI_pos hw.nod 0 h2
            have h6 := idxI_pos hw.nod 0 hk
            omega
      show idxs ((m + 1 : Nat) : Int) 0 r.L ++ rpendL r.L n (((m + 1 : Nat) : Int) + 1) = _
      rw [hone, show (((m + 1 : Nat) : Int) + 1) = ((m + 1 + 1 : Nat) : Int) by omega, ih (m + 1) (by omega), Nat.zero_add]
      rfl
  have := key s.order.length 0 (by omega)
  rw [h.tn, Int.toNat_natCast]
  exact this
end Go.Proofs.Ytlkdbmoocajjlaa.Al

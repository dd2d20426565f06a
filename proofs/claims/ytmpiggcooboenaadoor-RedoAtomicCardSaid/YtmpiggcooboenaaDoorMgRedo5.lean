/- Texts of this claim, joined: RedR RedS RedT RedU RedV RedW RedX RedY RedZ. -/
import Derived.Test.YtmpiggcooboenaaDoorMgRedo1
import Derived.Test.YtmpiggcooboenaaDoorMgRedo2
import Derived.Test.YtmpiggcooboenaaDoorMgRedo3
import Derived.Test.YtmpiggcooboenaaDoorMgRedo4
/- Logs: the plain law, 3: what a disk holds whose log was not committed, or was; opening it. -/
namespace Go.Proofs.YtmpiggcooboenaaDoor.Al
open Go Go.Al Go.Proofs Go.RowKit
set_option maxRecDepth 100000
set_option linter.unusedVariables false
set_option linter.unusedSimpArgs false
theorem right_iff (n : Int) : ∀ (ps : List (Int × List UInt8)) (seen : List Int), rightL n ps seen = true ↔ ((∀ p ∈ ps, isPg n p.1 = true ∧ p.2.length = 240 ∧ p.1 ∉ seen) ∧ (ps.map (·.1)).Nodup)
  | [], seen => by simp [rightL]
  | p :: ps, seen => by
    show (isPg n p.1 && ((p.2.length == 240) && (!(seen.contains p.1) && rightL n ps (p.1 :: seen)))) = true ↔ _
    rw [Bool.and_eq_true, Bool.and_eq_true, Bool.and_eq_true, right_iff n ps (p.1 :: seen), List.map_cons, List.nodup_cons]
    constructor
    · rintro ⟨h1, h2, h3, h4, h5⟩
      have h3 : p.1 ∉ seen := by simpa using h3
      refine ⟨fun x hx => ?_, fun hm => ?_, h5⟩
      · rcases List.mem_cons.1 hx with rfl | hx
        · exact ⟨h1, by simpa using h2, h3⟩
        · obtain ⟨g1, g2, g3⟩ := h4 x hx
          exact ⟨g1, g2, fun e => g3 (List.mem_cons_of_mem _ e)⟩
      · obtain ⟨x, hx, e⟩ := List.mem_map.1 hm
        exact (h4 x hx).2.2 (by rw [e]; exact List.mem_cons_self)
    · rintro ⟨h1, h2, h3⟩
      obtain ⟨g1, g2, g3⟩ := h1 p List.mem_cons_self
      refine ⟨g1, by simpa using g2, by simpa using g3, fun x hx => ?_, h3⟩
      obtain ⟨k1, k2, k3⟩ := h1 x (List.mem_cons_of_mem _ hx)
      refine ⟨k1, k2, fun e => ?_⟩
      rcases List.mem_cons.1 e with e | e
      · exact h2 (by rw [← e]; exact List.mem_map_of_mem hx)
      · exact k3 e
/-- Images that may be committed, under a number. -/
structure Ims (n q : Int) (ps : List (Int × List UInt8)) : Prop where
  pg : ∀ p ∈ ps, isPg n p.1 = true ∧ p.2.length = 240
  nod : (ps.map (·.1)).Nodup
  len : (ps.length : Int) ≤ pagesN n
  q0 : 0 ≤ q ∧ q ≤ 4611686018427387904
theorem secR_of {n q p : Int} (hp : 0 ≤ p ∧ p < 100000) (hq : 0 ≤ q ∧ q ≤ 4611686018427387904) : secR p q = true := by
  unfold secR inM
  rw [show Nat.beq 4 8 = false by decide, cond_false, show ((256 ^ 4 : Nat) : Int) = 4294967296 by decide]
  simp only [Bool.and_eq_true, decide_eq_true_eq]
  omega
theorem Ims.pack {n q : Int} {ps : List (Int × List UInt8)} (h : Ims n q ps) {p : Int × List UInt8} (hp : p ∈ ps) : packY p.1 q p.2 = true := by
  obtain ⟨h1, h2⟩ := h.pg p hp
  have := isPg_iff.1 h1
  have hle := pagesN_le n
  unfold packY
  rw [secR_of (n := n) (by omega) h.q0, h2]
  rfl
theorem Ims.note {n q : Int} {ps : List (Int × List UInt8)} (h : Ims n q ps) : secR (ps.length : Int) q = true := by
  have hle := pagesN_le n
  have := h.len
  exact secR_of (n := n) (by omega) h.q0
theorem note_pack {m q : Int} (h : secR m q = true) : packY m q (List.replicate 240 0) = true := by
  unfold packY
  rw [h, List.length_replicate]
  rfl
theorem logW_at (n q : Int) : ∀ (ps : List (Int × List UInt8)) (i j : Nat) (p : Int × List UInt8), ps[j]? = some p → (slotI n ((i + j : Nat) : Int), packB p.1 q p.2) ∈ logW n q i ps
  | [], i, j, p, h => by cases h
  | x :: ps, i, 0, p, h => by cases h; exact List.mem_cons_self
  | x :: ps, i, j + 1, p, h => by
    refine List.mem_cons_of_mem _ ?_
    have := logW_at n q ps (i + 1) j p h
    rwa [show i + 1 + j = i + (j + 1) by omega] at this
theorem logW_of (n q : Int) : ∀ (ps : List (Int × List UInt8)) (i : Nat) (w : Int × List UInt8), w ∈ logW n q i ps → ∃ j p, ps[j]? = some p ∧ w = (slotI n ((i + j : Nat) : Int), packB p.1 q p.2)
  | [], i, w, h => by cases h
  | x :: ps, i, w, h => by
    rcases List.mem_cons.1 h with rfl | h
    · exact ⟨0, x, rfl, rfl⟩
    · obtain ⟨j, p, h1, h2⟩ := logW_of n q ps (i + 1) w h
      exact ⟨j + 1, p, h1, by rw [h2, show i + 1 + j = i + (j + 1) by omega]⟩
theorem logW_ok {n q : Int} {ps : List (Int × List UInt8)} (h : Ims n q ps) : OkW n (logW n q 0 ps) := fun w hw => by
  obtain ⟨j, p, h1, rfl⟩ := logW_of n q ps 0 w hw
  have hj := (List.getElem?_eq_some_iff.1 h1).1
  have hl := h.len
  obtain ⟨g1, g2, g3⟩ := slot_range (n := n) (i := ((0 + j : Nat) : Int)) (by omega)
  exact ⟨⟨g2, g3⟩, packB_len (h.pack (List.mem_of_getElem? h1))⟩
theorem homW_ok {n q : Int} {ps : List (Int × List UInt8)} (h : Ims n q ps) : OkW n (homW n q ps) := fun w hw => by
  obtain ⟨p, hp, rfl⟩ := List.mem_map.1 hw
  obtain ⟨g1, g2, g3⟩ := home_range (isPg_iff.1 (h.pg p hp).1)
  exact ⟨⟨g2, g3⟩, packB_len (h.pack hp)⟩
theorem logW_keys (n q : Int) : ∀ (ps : List (Int × List UInt8)) (i : Nat), (i : Int) + ps.length ≤ pagesN n → ((logW n q i ps).map (·.1)).Nodup
  | [], i, h => List.nodup_nil
  | p :: ps, i, h => by
    rw [List.length_cons] at h
    show (slotI n (i : Int) :: (logW n q (i + 1) ps).map (·.1)).Nodup
    rw [List.nodup_cons]
    refine ⟨fun hm => ?_, logW_keys n q ps (i + 1) (by omega)⟩
    obtain ⟨w, hw, e⟩ := List.mem_map.1 hm
    obtain ⟨j, x, h1, rfl⟩ := logW_of n q ps (i + 1) w hw
    have hj := (List.getElem?_eq_some_iff.1 h1).1
    have e : slotI n ((i + 1 + j : Nat) : Int) = slotI n (i : Int) := e
    rw [(slot_range (n := n) (i := ((i + 1 + j : Nat) : Int)) (by omega)).1, (slot_range (n := n) (i := (i : Int)) (by omega)).1] at e
    omega
theorem homW_keys {n q : Int} : ∀ {ps : List (Int × List UInt8)}, (∀ p ∈ ps, isPg n p.1 = true) → (ps.map (·.1)).Nodup → ((homW n q ps).map (·.1)).Nodup
  | [], _, _ => List.nodup_nil
  | p :: ps, h, hn => by
    rw [List.map_cons, List.nodup_cons] at hn
    show (homeI n p.1 :: (homW n q ps).map (·.1)).Nodup
    rw [List.nodup_cons]
    refine ⟨fun hm => ?_, homW_keys (fun x hx => h x (List.mem_cons_of_mem _ hx)) hn.2⟩
    obtain ⟨w, hw, e⟩ := List.mem_map.1 hm
    obtain ⟨x, hx, rfl⟩ := List.mem_map.1 hw
    have e : homeI n x.1 = homeI n p.1 := e
    rw [(home_range (isPg_iff.1 (h x (List.mem_cons_of_mem _ hx)))).1, (home_range (isPg_iff.1 (h p List.mem_cons_self))).1] at e
    exact hn.1 (by rw [show p.1 = x.1 by omega]; exact List.mem_map_of_mem hx)
theorem putAll_or (ws : List (Int × List UInt8)) : ∀ (c : Int → List UInt8) (k : Int), putAll c ws k = c k ∨ (k, putAll c ws k) ∈ ws := by
  induction ws with
  | nil => exact fun c k => .inl rfl
  | cons p ws ih =>
    intro c k
    rw [putAll_cons]
    rcases ih (fun k => if k = p.1 then p.2 else c k) k with h | h
    · rw [h]
      by_cases e : k = p.1
      · refine .inr ?_
        rw [if_pos e, e]
        exact List.mem_cons_self
      · exact .inl (if_neg e)
    · exact .inr (List.mem_cons_of_mem _ h)
/-- What stands at the mark and in the slots is a commit of images. -/
structure Slots (n q : Int) (ps : List (Int × List UInt8)) (c : Int → List UInt8) : Prop where
  mark : c 0 = noteB (ps.length : Int) q
  slot : ∀ (j : Nat) p, ps[j]? = some p → c (slotI n (j : Int)) = packB p.1 q p.2
theorem rdN_note {n m q : Int} {c : Int → List UInt8} (hn : 3 ≤ n) (hs : secR m q = true) (h : c 0 = noteB m q) : rdN (cO n) c = (m, q, 0) := by
  have e : (cO n).rdE c 0 = 0 := if_pos ⟨Int.le_refl 0, by omega⟩
  have l : (cO n).rdL c 0 = noteB m q := (if_pos ⟨Int.le_refl 0, by omega⟩ : _ = c 0).trans h
  obtain ⟨_, h1, h2, _, h3⟩ := un_pack (note_pack hs)
  unfold rdN
  rw [if_pos e, l]
  unfold noteB
  rw [h1, h2, h3]
theorem slots_whl {n q : Int} {ps : List (Int × List UInt8)} {c : Int → List UInt8} (hI : Ims n q ps) (h : Slots n q ps c) : ∀ k i : Nat, i + k = ps.length → whl (cO n) c q k i = some (homW n q (ps.drop i))
  | 0, i, e => by
    rw [List.drop_of_length_le (by omega)]
    rfl
  | k + 1, i, e => by
    have hi : i < ps.length := by omega
    have hx : ps[i]? = some ps[i] := List.getElem?_eq_getElem hi
    have hpk := hI.pack (List.getElem_mem hi)
    obtain ⟨_, u1, u2, _, u4⟩ := un_pack hpk
    have hl := hI.len
    obtain ⟨g1, g2, g3⟩ := slot_range (n := n) (i := (i : Int)) (by omega)
    have hL : (cO n).rdL c (slotI n (i : Int)) = packB ps[i].1 q ps[i].2 := (if_pos ⟨g2, g3⟩ : _ = c (slotI n (i : Int))).trans (h.slot i _ hx)
    have hE : (cO n).rdE c (slotI n (i : Int)) = 0 := if_pos ⟨g2, g3⟩
    have hY : slotY (cO n) c q (i : Int) = true := by
      show (isPg n (i : Int) && (((cO n).rdE c (slotI n (i : Int)) == 0) && ((unE ((cO n).rdL c (slotI n (i : Int))) == 0) && ((unQ ((cO n).rdL c (slotI n (i : Int))) == q) && isPg n (unP ((cO n).rdL c (slotI n (i : Int)))))))) = true
      rw [hL, hE, u1, u2, u4, isPg_iff.2 (by omega : 0 ≤ (i : Int) ∧ (i : Int) < pagesN n), (hI.pg _ (List.getElem_mem hi)).1]
      simp
    have hP : slotP (cO n) c (i : Int) = (homeI n ps[i].1, packB ps[i].1 q ps[i].2) := by
      show (homeI n (unP ((cO n).rdL c (slotI n (i : Int)))), (cO n).rdL c (slotI n (i : Int))) = _
      rw [hL, u1]
    show (if slotY (cO n) c q (i : Int) = true then (whl (cO n) c q k (i + 1)).map (slotP (cO n) c (i : Int) :: ·) else none) = _
    rw [if_pos hY, slots_whl hI h k (i + 1) (by omega), hP, List.drop_eq_getElem_cons hi]
    rfl
theorem slots_whole {n q : Int} {ps : List (Int × List UInt8)} {c : Int → List UInt8} (hI : Ims n q ps) (h : Slots n q ps c) : wholeO (cO n) c (ps.length : Int) q = some (homW n q ps) := by
  unfold wholeO
  rw [if_neg (by have := hI.len; show ¬ (ps.length : Int) > pagesN n; omega), Int.toNat_natCast, slots_whl hI h ps.length 0 (by omega), List.drop_zero]
end Go.Proofs.YtmpiggcooboenaaDoor.Al
/- Logs: the plain law, 4: committing, opening, crashes. -/
namespace Go.Proofs.YtmpiggcooboenaaDoor.Al
open Go Go.Al Go.Proofs Go.RowKit
set_option maxRecDepth 100000
set_option linter.unusedVariables false
set_option linter.unusedSimpArgs false
/-- What stands on a disk all of whose pages are at home. -/
structure Base (n cnt q : Int) (c0 : Int → List UInt8) : Prop where
  rd : rdN (cO n) c0 = (cnt, q, 0)
  same : ∀ ws, wholeO (cO n) c0 cnt q = some ws → OkW n ws ∧ ∀ p ∈ ws, c0 p.1 = p.2
/-- .. of which slots alone are otherwise, by another number. -/
structure Old (n q : Int) (c0 c : Int → List UInt8) : Prop where
  mark : c 0 = c0 0
  home : ∀ p, isPg n p = true → c (homeI n p) = c0 (homeI n p)
  slot : ∀ i, isPg n i = true → c (slotI n i) = c0 (slotI n i) ∨ unQ (c (slotI n i)) ≠ q
structure New (n q : Int) (ps : List (Int × List UInt8)) (c0 c : Int → List UInt8) : Prop where
  slots : Slots n q ps c
  home : ∀ p, isPg n p = true → c (homeI n p) = c0 (homeI n p) ∨ ∃ x ∈ ps, x.1 = p ∧ c (homeI n p) = packB p q x.2
structure Done (n q : Int) (ps : List (Int × List UInt8)) (c0 c : Int → List UInt8) : Prop where
  slots : Slots n q ps c
  yes : ∀ x ∈ ps, c (homeI n x.1) = packB x.1 q x.2
  no : ∀ p, isPg n p = true → (∀ x ∈ ps, x.1 ≠ p) → c (homeI n p) = c0 (homeI n p)
theorem Done.new {n q : Int} {ps : List (Int × List UInt8)} {c0 c : Int → List UInt8} (h : Done n q ps c0 c) : New n q ps c0 c := ⟨h.slots, fun p hp => by
  by_cases e : ∃ x ∈ ps, x.1 = p
  · obtain ⟨x, hx, rfl⟩ := e
    exact .inr ⟨x, hx, rfl, h.yes x hx⟩
  · exact .inl (h.no p hp fun x hx e2 => e ⟨x, hx, e2⟩)⟩
theorem whl_ok {n q : Int} (c : Int → List UInt8) : ∀ (k i : Nat) (ws : List (Int × List UInt8)), whl (cO n) c q k i = some ws → ∀ w ∈ ws, ∃ p, isPg n p = true ∧ w.1 = homeI n p ∧ w.2.length = 256
  | 0, i, ws, h, w, hw => by cases h; cases hw
  | k + 1, i, ws, h, w, hw => by
    have h : (if slotY (cO n) c q (i : Int) = true then (whl (cO n) c q k (i + 1)).map (slotP (cO n) c (i : Int) :: ·) else none) = some ws := h
    split at h
    · next hy =>
      cases e : whl (cO n) c q k (i + 1) with
      | none => rw [e] at h; cases h
      | some us =>
        rw [e] at h
        cases h
        rcases List.mem_cons.1 hw with rfl | hw
        · unfold slotY at hy
          simp only [Bool.and_eq_true, beq_iff_eq] at hy
          exact ⟨_, hy.2.2.2.2, rfl, unE_len hy.2.2.1⟩
        · exact whl_ok c k (i + 1) us e w hw
    · cases h
theorem whole_ok {n cnt q : Int} {c : Int → List UInt8} {ws : List (Int × List UInt8)} (h : wholeO (cO n) c cnt q = some ws) : OkW n ws ∧ (∀ w ∈ ws, ∃ p, isPg n p = true ∧ w.1 = homeI n p) ∧ ws.length ≤ 32768 := by
  have hl := wholeO_len h
  have hle := pagesN_le n
  have hl2 : cnt ≤ pagesN n := hl.2
  unfold wholeO at h
  split at h
  · cases h
  · have := whl_ok c _ _ ws h
    refine ⟨fun w hw => ?_, fun w hw => ?_, by omega⟩
    · obtain ⟨p, h1, h2, h3⟩ := this w hw
      obtain ⟨_, g1, g2⟩ := home_range (isPg_iff.1 h1)
      rw [h2]
      exact ⟨⟨g1, g2⟩, h3⟩
    · obtain ⟨p, h1, h2, _⟩ := this w hw
      exact ⟨p, h1, h2⟩
theorem old_whl {n q : Int} {c0 c : Int → List UInt8} (h : Old n q c0 c) : ∀ (k i : Nat) (ws : List (Int × List UInt8)), whl (cO n) c q k i = some ws → whl (cO n) c0 q k i = some ws
  | 0, i, ws, e => e
  | k + 1, i, ws, e => by
    have e : (if slotY (cO n) c q (i : Int) = true then (whl (cO n) c q k (i + 1)).map (slotP (cO n) c (i : Int) :: ·) else none) = some ws := e
    split at e
    · next hy =>
      have hy2 := hy
      unfold slotY at hy
      simp only [Bool.and_eq_true, beq_iff_eq] at hy
      obtain ⟨h1, h2, h3, h4, h5⟩ := hy
      have h1 : isPg n (i : Int) = true := h1
      obtain ⟨_, g2, g3⟩ := slot_range (isPg_iff.1 h1)
      have hL : ∀ c, (cO n).rdL c (slotI n (i : Int)) = c (slotI n (i : Int)) := fun c => if_pos ⟨g2, g3⟩
      have h4 : unQ ((cO n).rdL c (slotI n (i : Int))) = q := h4
      rw [hL] at h4
      have hs := (h.slot (i : Int) h1).resolve_right fun x => x h4
      have hLL : (cO n).rdL c (slotI n (i : Int)) = (cO n).rdL c0 (slotI n (i : Int)) := by rw [hL, hL, hs]
      have hY : slotY (cO n) c0 q (i : Int) = true := by
        rw [← hy2]
        show (isPg n (i : Int) && (_ && ((unE ((cO n).rdL c0 (slotI n (i : Int))) == 0) && ((unQ ((cO n).rdL c0 (slotI n (i : Int))) == q) && isPg n (unP ((cO n).rdL c0 (slotI n (i : Int)))))))) = (isPg n (i : Int) && (_ && ((unE ((cO n).rdL c (slotI n (i : Int))) == 0) && ((unQ ((cO n).rdL c (slotI n (i : Int))) == q) && isPg n (unP ((cO n).rdL c (slotI n (i : Int))))))))
        rw [hLL]
        rfl
      have hP : slotP (cO n) c0 (i : Int) = slotP (cO n) c (i : Int) := by
        show (homeI n (unP ((cO n).rdL c0 (slotI n (i : Int)))), (cO n).rdL c0 (slotI n (i : Int))) = (homeI n (unP ((cO n).rdL c (slotI n (i : Int)))), (cO n).rdL c (slotI n (i : Int)))
        rw [hLL]
      show (if slotY (cO n) c0 q (i : Int) = true then (whl (cO n) c0 q k (i + 1)).map (slotP (cO n) c0 (i : Int) :: ·) else none) = some ws
      rw [if_pos hY, hP]
      cases e2 : whl (cO n) c q k (i + 1) with
      | none => rw [e2] at e; cases e
      | some us =>
        rw [old_whl h k (i + 1) us e2, ← e2]
        exact e
    · cases e
theorem old_whole {n cnt q : Int} {c0 c : Int → List UInt8} (h : Old n q c0 c) {ws : List (Int × List UInt8)} (e : wholeO (cO n) c cnt q = some ws) : wholeO (cO n) c0 cnt q = some ws := by
  unfold wholeO at e ⊢
  split at e
  · cases e
  · next hn =>
    rw [if_neg (show ¬ cnt > pagesN ((cO n).sz c0) from hn)]
    exact old_whl h _ _ ws e
/-- What opening a log keeps true. -/
structure Cls (n cnt q : Int) (X : (Int → List UInt8) → Prop) : Prop where
  rd : ∀ c, X c → rdN (cO n) c = (cnt, q, 0)
  ok : ∀ c ws, X c → wholeO (cO n) c cnt q = some ws → ∀ c', (∀ k, c' k = c k ∨ (k, c' k) ∈ ws) → X c'
theorem home_ne {n p : Int} (h : isPg n p = true) : homeI n p ≠ 0 ∧ ∀ i, isPg n i = true → homeI n p ≠ slotI n i := by
  have h1 := isPg_iff.1 h
  refine ⟨by rw [(home_range h1).1]; omega, fun i hi => ?_⟩
  have h2 := isPg_iff.1 hi
  rw [(home_range h1).1, (slot_range h2).1]
  omega
theorem home_inj {n p p' : Int} (h : isPg n p = true) (h' : isPg n p' = true) (e : homeI n p = homeI n p') : p = p' := by
  rw [(home_range (isPg_iff.1 h)).1, (home_range (isPg_iff.1 h')).1] at e
  omega
theorem cls_old {n cnt q : Int} {c0 : Int → List UInt8} (hn : 3 ≤ n) (hB : Base n cnt q c0) : Cls n cnt q (Old n q c0) := by
  refine ⟨fun c h => ?_, fun c ws h e c' hc => ?_⟩
  · rw [← hB.rd]
    have l : (cO n).rdL c 0 = (cO n).rdL c0 0 := by
      show (if 0 ≤ (0 : Int) ∧ 0 < n then c 0 else []) = (if 0 ≤ (0 : Int) ∧ 0 < n then c0 0 else [])
      rw [h.mark]
    show (if (cO n).rdE c 0 = 0 then (unP ((cO n).rdL c 0), unQ ((cO n).rdL c 0), unE ((cO n).rdL c 0)) else (0, 0, (cO n).rdE c 0)) = (if (cO n).rdE c0 0 = 0 then (unP ((cO n).rdL c0 0), unQ ((cO n).rdL c0 0), unE ((cO n).rdL c0 0)) else (0, 0, (cO n).rdE c0 0))
    rw [l]
    rfl
  · obtain ⟨_, hh, _⟩ := whole_ok e
    obtain ⟨_, hs⟩ := hB.same ws (old_whole h e)
    refine ⟨?_, fun p hp => ?_, fun i hi => ?_⟩
    · rcases hc 0 with e2 | e2
      · rw [e2, h.mark]
      · obtain ⟨p, hp, e3⟩ := hh _ e2
        exact absurd e3.symm (home_ne hp).1
    · rcases hc (homeI n p) with e2 | e2
      · rw [e2, h.home p hp]
      · exact (hs _ e2).symm
    · rcases hc (slotI n i) with e2 | e2
      · rw [e2]; exact h.slot i hi
      · obtain ⟨p, hp, e3⟩ := hh _ e2
        exact absurd e3.symm ((home_ne hp).2 i hi)
theorem slots_keep {n q : Int} {ps : List (Int × List UInt8)} {c c' : Int → List UInt8} {ws : List (Int × List UInt8)} (hl : (ps.length : Int) ≤ pagesN n) (h : Slots n q ps c) (hh : ∀ w ∈ ws, ∃ p, isPg n p = true ∧ w.1 = homeI n p) (hc : ∀ k, c' k = c k ∨ (k, c' k) ∈ ws) : Slots n q ps c' := by
  refine ⟨?_, fun j p hj => ?_⟩
  · rcases hc 0 with e2 | e2
    · rw [e2, h.mark]
    · obtain ⟨p, hp, e3⟩ := hh _ e2
      exact absurd e3.symm (home_ne hp).1
  · have hjl := (List.getElem?_eq_some_iff.1 hj).1
    rcases hc (slotI n (j : Int)) with e2 | e2
    · rw [e2, h.slot j p hj]
    · obtain ⟨x, hx, e3⟩ := hh _ e2
      exact absurd e3.symm ((home_ne hx).2 (j : Int) (isPg_iff.2 (by omega)))
theorem cls_new {n q : Int} {ps : List (Int × List UInt8)} {c0 : Int → List UInt8} (hn : 3 ≤ n) (hI : Ims n q ps) : Cls n (ps.length : Int) q (New n q ps c0) := by
  refine ⟨fun c h => rdN_note hn hI.note h.slots.mark, fun c ws h e c' hc => ?_⟩
  obtain ⟨_, hh, _⟩ := whole_ok e
  rw [slots_whole hI h.slots] at e
  cases e
  refine ⟨slots_keep hI.len h.slots hh hc, fun p hp => ?_⟩
  rcases hc (homeI n p) with e2 | e2
  · rw [e2]; exact h.home p hp
  · obtain ⟨x, hx, e3⟩ := List.mem_map.1 e2
    have e4 := home_inj (hI.pg x hx).1 hp (congrArg Prod.fst e3)
    refine .inr ⟨x, hx, e4, ?_⟩
    have := congrArg Prod.snd e3
    rw [← e4] at this ⊢
    exact this.symm
theorem cls_done {n q : Int} {ps : List (Int × List UInt8)} {c0 : Int → List UInt8} (hn : 3 ≤ n) (hI : Ims n q ps) : Cls n (ps.length : Int) q (Done n q ps c0) := by
  refine ⟨fun c h => rdN_note hn hI.note h.slots.mark, fun c ws h e c' hc => ?_⟩
  obtain ⟨_, hh, _⟩ := whole_ok e
  rw [slots_whole hI h.slots] at e
  cases e
  have key : ∀ p, isPg n p = true → c' (homeI n p) = c (homeI n p) := fun p hp => by
    rcases hc (homeI n p) with e2 | e2
    · exact e2
    · obtain ⟨x, hx, e3⟩ := List.mem_map.1 e2
      have e4 := home_inj (hI.pg x hx).1 hp (congrArg Prod.fst e3)
      have := congrArg Prod.snd e3
      have e5 : packB x.1 q x.2 = c' (homeI n p) := this
      rw [← e5, ← e4, h.yes x hx]
  exact ⟨slots_keep hI.len h.slots hh hc, fun x hx => by rw [key _ (hI.pg x hx).1]; exact h.yes x hx, fun p hp hno => by rw [key p hp]; exact h.no p hp hno⟩
theorem done_of_new {n q : Int} {ps : List (Int × List UInt8)} {c0 c : Int → List UInt8} (hI : Ims n q ps) (h : New n q ps c0 c) : Done n q ps c0 (putAll c (homW n q ps)) := by
  have hh : ∀ w ∈ homW n q ps, ∃ p, isPg n p = true ∧ w.1 = homeI n p := fun w hw => by
    obtain ⟨x, hx, rfl⟩ := List.mem_map.1 hw
    exact ⟨x.1, (hI.pg x hx).1, rfl⟩
  refine ⟨slots_keep hI.len h.slots hh (putAll_or _ c), fun x hx => ?_, fun p hp hno => ?_⟩
  · have := putAll_yes (homW_keys (fun p hp => (hI.pg p hp).1) hI.nod) (p := (homeI n x.1, packB x.1 q x.2)) (List.mem_map.2 ⟨x, hx, rfl⟩) c
    exact this
  · rw [putAll_no _ _ fun w hw e => ?_]
    · rcases h.home p hp with e | ⟨x, hx, e, _⟩
      · exact e
      · exact absurd e (hno x hx)
    · obtain ⟨x, hx, rfl⟩ := List.mem_map.1 hw
      exact hno x hx (home_inj (hI.pg x hx).1 hp e)
/-- Opening a log on a disk that nothing brings down. -/
theorem open_up {s : DS} {cnt q : Int} {X : (Int → List UInt8) → Prop} (hX : Cls s.size cnt q X) (hu : Up s) (hd : DWf s) (hc : Calm s) (hw : s.writes + 32768 < 1000000000) (hx : X (secB s)) :
    (openS dsO s).2 = (0, some q) ∧ Up (openS dsO s).1 ∧ DWf (openS dsO s).1 ∧ Calm (openS dsO s).1 ∧ (openS dsO s).1.size = s.size ∧ X (secB (openS dsO s).1) ∧ (openS dsO s).1.writes ≤ s.writes + 32768 ∧ (∀ ws, wholeO (cO s.size) (secB s) cnt q = some ws → secB (openS dsO s).1 = putAll (secB s) ws ∧ (openS dsO s).1.writes = s.writes + ws.length) := by
  have hS := same_c hu.down
  have h1 : rdN dsO s = (cnt, q, 0) := hS.rdN.trans (hX.rd _ hx)
  have h2 : wholeO dsO s cnt q = wholeO (cO s.size) (secB s) cnt q := hS.whole cnt q
  unfold openS
  rw [h1]
  dsimp only
  rw [if_neg (by decide), h2]
  cases e : wholeO (cO s.size) (secB s) cnt q with
  | none => exact ⟨rfl, hu, hd, hc, rfl, hx, by show s.writes ≤ _; omega, fun ws h => by cases h⟩
  | some ws =>
    obtain ⟨k1, k2, k3⟩ := whole_ok e
    obtain ⟨g1, g2, g3, g4, g5, g6, g7⟩ := runW_up ws s hu hd (by omega) k1
    dsimp only
    rw [if_neg (by rw [g1]; decide)]
    refine ⟨rfl, g2, g3, g4, g7, hX.ok _ ws hx e _ fun k => ?_, by show (runW dsO s ws).1.writes ≤ _; omega, fun us h => by cases h; exact ⟨funext g5, g6⟩⟩
    show secB (runW dsO s ws).1 k = secB s k ∨ (k, secB (runW dsO s ws).1 k) ∈ ws
    rw [g5]
    exact putAll_or ws _ k
/-- Opening a log on a disk that may go down, and a crash behind. -/
theorem open_mid {s : DS} {cnt q : Int} {X : (Int → List UInt8) → Prop} (hX : Cls s.size cnt q X) (hu : s.down = false) (hd : DWf s) (hc : Calm s) (hw : s.writes + 32768 < 1000000000) (hx : X (secB s)) (keep : List Int) :
    Up (crashS (openS dsO s).1 keep) ∧ DWf (crashS (openS dsO s).1 keep) ∧ Calm (crashS (openS dsO s).1 keep) ∧ (crashS (openS dsO s).1 keep).size = s.size ∧ X (secB (crashS (openS dsO s).1 keep)) ∧ (crashS (openS dsO s).1 keep).writes ≤ s.writes + 32768 ∧ DWf (openS dsO s).1 := by
  have hS := same_c hu
  have h1 : rdN dsO s = (cnt, q, 0) := hS.rdN.trans (hX.rd _ hx)
  have h2 : wholeO dsO s cnt q = wholeO (cO s.size) (secB s) cnt q := hS.whole cnt q
  have he : ∃ ws, (openS dsO s).1 = s ∨ ((openS dsO s).1 = (runW dsO s ws).1 ∧ wholeO (cO s.size) (secB s) cnt q = some ws) := by
    unfold openS
    rw [h1]
    dsimp only
    rw [if_neg (by decide), h2]
    cases e : wholeO (cO s.size) (secB s) cnt q with
    | none => exact ⟨[], .inl rfl⟩
    | some ws =>
      dsimp only
      split
      · exact ⟨ws, .inr ⟨rfl, rfl⟩⟩
      · exact ⟨ws, .inr ⟨rfl, rfl⟩⟩
  obtain ⟨ws, e | ⟨e, hw2⟩⟩ := he
  · rw [e]
    obtain ⟨g1, g2, g3, g4, g5, g6⟩ := calm_crash hd hc keep
    exact ⟨g3, g1, g2, g4, by rw [funext g6]; exact hx, by omega, hd⟩
  · rw [e]
    obtain ⟨k1, k2, k3⟩ := whole_ok hw2
    obtain ⟨l1, l2⟩ := runW_le ws s
    rcases runW_mid ws [] s hu (mid_calm hd hc) (by omega) k1 with ⟨g1, g2, g3, g4, g5⟩ | ⟨g1, g2⟩
    · obtain ⟨m1, m2, m3, m4, m5, m6⟩ := calm_crash g3 g4 keep
      refine ⟨m3, m1, m2, m4.trans l2, hX.ok _ ws hx hw2 _ fun k => ?_, by omega, g3⟩
      rw [m6, g5]
      exact putAll_or ws _ k
    · rw [List.nil_append] at g2
      obtain ⟨m1, m2, m3, m4, m5, m6⟩ := mid_crash g2 keep
      exact ⟨m3, m1, m2, m4.trans l2, hX.ok _ ws hx hw2 _ m6, by omega, g2.wf⟩
end Go.Proofs.YtmpiggcooboenaaDoor.Al
/- Logs: the plain law, 5: commits, and what pages tell. -/
namespace Go.Proofs.YtmpiggcooboenaaDoor.Al
open Go Go.Al Go.Proofs Go.RowKit
set_option maxRecDepth 100000
set_option linter.unusedVariables false
set_option linter.unusedSimpArgs false
theorem putLog {n q : Int} {ps : List (Int × List UInt8)} (hI : Ims n q ps) (c : Int → List UInt8) : (∀ (j : Nat) p, ps[j]? = some p → putAll c (logW n q 0 ps) (slotI n (j : Int)) = packB p.1 q p.2) ∧ putAll c (logW n q 0 ps) 0 = c 0 ∧ (∀ p, isPg n p = true → putAll c (logW n q 0 ps) (homeI n p) = c (homeI n p)) := by
  have hl := hI.len
  refine ⟨fun j p hj => ?_, putAll_no _ _ (fun w hw e => ?_) _, fun p hp => putAll_no _ _ (fun w hw e => ?_) _⟩
  · have hm := logW_at n q ps 0 j p hj
    rw [Nat.zero_add] at hm
    exact putAll_yes (logW_keys n q ps 0 (by omega)) hm c
  · obtain ⟨j, p, h1, rfl⟩ := logW_of n q ps 0 w hw
    have hj := (List.getElem?_eq_some_iff.1 h1).1
    have e : slotI n ((0 + j : Nat) : Int) = 0 := e
    rw [(slot_range (n := n) (i := ((0 + j : Nat) : Int)) (by omega)).1] at e
    omega
  · obtain ⟨j, x, h1, rfl⟩ := logW_of n q ps 0 w hw
    have hj := (List.getElem?_eq_some_iff.1 h1).1
    exact (home_ne hp).2 ((0 + j : Nat) : Int) (isPg_iff.2 (by omega)) e.symm
theorem put_one (c : Int → List UInt8) (l : List UInt8) (k : Int) : putAll c [(0, l)] k = if k = 0 then l else c k := rfl
theorem slots_put {n q : Int} {ps : List (Int × List UInt8)} (hI : Ims n q ps) (c : Int → List UInt8) : Slots n q ps (putAll (putAll c (logW n q 0 ps)) [(0, noteB (ps.length : Int) q)]) ∧ ∀ p, isPg n p = true → putAll (putAll c (logW n q 0 ps)) [(0, noteB (ps.length : Int) q)] (homeI n p) = c (homeI n p) := by
  obtain ⟨h1, h2, h3⟩ := putLog hI c
  have hl := hI.len
  refine ⟨⟨by rw [put_one, if_pos rfl], fun j p hj => ?_⟩, fun p hp => ?_⟩
  · have hjl := (List.getElem?_eq_some_iff.1 hj).1
    rw [put_one, if_neg (by rw [(slot_range (n := n) (i := (j : Int)) (by omega)).1]; omega)]
    exact h1 j p hj
  · rw [put_one, if_neg (home_ne hp).1]
    exact h3 p hp
theorem Ims.right {n q : Int} {ps : List (Int × List UInt8)} (h : Ims n q ps) : rightL n ps [] = true := (right_iff n ps []).2 ⟨fun p hp => ⟨(h.pg p hp).1, (h.pg p hp).2, List.not_mem_nil⟩, h.nod⟩
theorem commit_eq {s : DS} {q : Int} {ps : List (Int × List UInt8)} (hI : Ims s.size (q + 1) ps) (h0 : ps ≠ []) : commitS dsO s q ps =
    if (runW dsO s (logW s.size (q + 1) 0 ps)).2 ≠ 0 then ((runW dsO s (logW s.size (q + 1) 0 ps)).1, (runW dsO s (logW s.size (q + 1) 0 ps)).2, q) else
    if (runW dsO (runW dsO s (logW s.size (q + 1) 0 ps)).1 [(0, noteB ps.length (q + 1))]).2 ≠ 0 then ((runW dsO (runW dsO s (logW s.size (q + 1) 0 ps)).1 [(0, noteB ps.length (q + 1))]).1, (runW dsO (runW dsO s (logW s.size (q + 1) 0 ps)).1 [(0, noteB ps.length (q + 1))]).2, q) else
    ((runW dsO (runW dsO (runW dsO s (logW s.size (q + 1) 0 ps)).1 [(0, noteB ps.length (q + 1))]).1 (homW s.size (q + 1) ps)).1, (runW dsO (runW dsO (runW dsO s (logW s.size (q + 1) 0 ps)).1 [(0, noteB ps.length (q + 1))]).1 (homW s.size (q + 1) ps)).2, q + 1) := by
  unfold commitS
  rw [if_neg (by have := hI.len; show ¬ (ps.length : Int) > pagesN s.size; omega), if_neg (by show ¬ rightL s.size ps [] = false; rw [hI.right]; decide), if_neg (by intro e; exact h0 (List.length_eq_zero_iff.1 e))]
  rfl
theorem commit_none (s : DS) (q : Int) : commitS dsO s q [] = (s, 0, q) := by
  unfold commitS
  have := pagesN_le s.size
  rw [if_neg (by show ¬ ((0 : Nat) : Int) > pagesN s.size; omega), if_neg (by show ¬ true = false; decide)]
  rfl
theorem note_ok {n q : Int} {ps : List (Int × List UInt8)} (hn : 3 ≤ n) (hI : Ims n q ps) : OkW n [(0, noteB (ps.length : Int) q)] := fun p hp => by
  have h := noteB_len hI.note
  generalize noteB (ps.length : Int) q = l at h hp
  rw [List.mem_singleton] at hp
  subst hp
  exact ⟨⟨Int.le_refl 0, by show (0 : Int) < n; omega⟩, h⟩
/-- A commit that nothing stops. -/
theorem commit_up {s : DS} {q : Int} {ps : List (Int × List UInt8)} (hI : Ims s.size (q + 1) ps) (h0 : ps ≠ []) (hu : Up s) (hd : DWf s) (hw : s.writes + 100000 < 1000000000) :
    (commitS dsO s q ps).2 = (0, q + 1) ∧ Up (commitS dsO s q ps).1 ∧ DWf (commitS dsO s q ps).1 ∧ Calm (commitS dsO s q ps).1 ∧ (commitS dsO s q ps).1.size = s.size ∧ Done s.size (q + 1) ps (secB s) (secB (commitS dsO s q ps).1) ∧ (commitS dsO s q ps).1.writes = s.writes + 2 * ps.length + 1 := by
  have hn := hd.sz.1
  have hl := hI.len
  have hle := pagesN_le s.size
  have e1 := logW_len s.size (q + 1) 0 ps
  have e2 : (homW s.size (q + 1) ps).length = ps.length := by unfold homW; rw [List.length_map]
  obtain ⟨a1, a2, a3, a4, a5, a6, a7⟩ := runW_up (logW s.size (q + 1) 0 ps) s hu hd (by omega) (logW_ok hI)
  have hce := commit_eq hI h0
  rw [if_neg (by rw [a1]; decide)] at hce
  generalize runW dsO s (logW s.size (q + 1) 0 ps) = r1 at a1 a2 a3 a4 a5 a6 a7 hce
  obtain ⟨b1, b2, b3, b4, b5, b6, b7⟩ := runW_up [(0, noteB (ps.length : Int) (q + 1))] r1.1 a2 a3 (by show r1.1.writes + ((1 : Nat) : Int) < _; omega) (by rw [a7]; exact note_ok hn hI)
  rw [if_neg (by rw [b1]; decide)] at hce
  generalize runW dsO r1.1 [(0, noteB (ps.length : Int) (q + 1))] = r2 at b1 b2 b3 b4 b5 b6 b7 hce
  replace b6 : r2.1.writes = r1.1.writes + ((1 : Nat) : Int) := b6
  obtain ⟨c1, c2, c3, c4, c5, c6, c7⟩ := runW_up (homW s.size (q + 1) ps) r2.1 b2 b3 (by omega) (by rw [b7, a7]; exact homW_ok hI)
  rw [hce]
  refine ⟨by rw [c1], c2, c3, c4, c7.trans (b7.trans a7), ?_, by show (runW dsO r2.1 (homW s.size (q + 1) ps)).1.writes = _; omega⟩
  have hs : secB (runW dsO r2.1 (homW s.size (q + 1) ps)).1 = putAll (putAll (putAll (secB s) (logW s.size (q + 1) 0 ps)) [(0, noteB (ps.length : Int) (q + 1))]) (homW s.size (q + 1) ps) := by
    funext k
    rw [c5, show secB r2.1 = putAll (secB r1.1) [(0, noteB (ps.length : Int) (q + 1))] from funext b5, show secB r1.1 = putAll (secB s) (logW s.size (q + 1) 0 ps) from funext a5]
  show Done s.size (q + 1) ps (secB s) (secB (runW dsO r2.1 (homW s.size (q + 1) ps)).1)
  rw [hs]
  obtain ⟨g1, g2⟩ := slots_put hI (secB s)
  exact done_of_new hI ⟨g1, fun p hp => .inl (g2 p hp)⟩
/-- A commit that the disk may go down in, and a crash behind. -/
theorem commit_mid {s : DS} {q : Int} {ps : List (Int × List UInt8)} (hI : Ims s.size (q + 1) ps) (h0 : ps ≠ []) (hu : s.down = false) (hd : DWf s) (hc : Calm s) (hw : s.writes + 200000 < 1000000000) (keep : List Int) :
    Up (crashS (commitS dsO s q ps).1 keep) ∧ DWf (crashS (commitS dsO s q ps).1 keep) ∧ Calm (crashS (commitS dsO s q ps).1 keep) ∧ (crashS (commitS dsO s q ps).1 keep).size = s.size ∧ (crashS (commitS dsO s q ps).1 keep).writes ≤ s.writes + 100000 ∧
    (((commitS dsO s q ps).2.1 ≠ 0 ∧ Old s.size q (secB s) (secB (crashS (commitS dsO s q ps).1 keep))) ∨ New s.size (q + 1) ps (secB s) (secB (crashS (commitS dsO s q ps).1 keep))) := by
  have hn := hd.sz.1
  have hl := hI.len
  have hle := pagesN_le s.size
  have e1 := logW_len s.size (q + 1) 0 ps
  have e2 : (homW s.size (q + 1) ps).length = ps.length := by unfold homW; rw [List.length_map]
  have hce := commit_eq hI h0
  obtain ⟨p1, p2, p3⟩ := putLog hI (secB s)
  obtain ⟨l1, l2⟩ := runW_le (logW s.size (q + 1) 0 ps) s
  have oldc : ∀ c : Int → List UInt8, (∀ k, c k = secB s k ∨ (k, c k) ∈ logW s.size (q + 1) 0 ps) → Old s.size q (secB s) c := fun c h => by
    have hk : ∀ k, (k, c k) ∈ logW s.size (q + 1) 0 ps → ∃ (j : Nat) (p : Int × List UInt8), isPg s.size (j : Int) = true ∧ k = slotI s.size (j : Int) ∧ p ∈ ps ∧ c k = packB p.1 (q + 1) p.2 := fun k hm => by
      obtain ⟨j, p, h1, h2⟩ := logW_of _ _ ps 0 _ hm
      have hj := (List.getElem?_eq_some_iff.1 h1).1
      rw [Nat.zero_add] at h2
      exact ⟨j, p, isPg_iff.2 (by omega), congrArg Prod.fst h2, List.mem_of_getElem? h1, congrArg Prod.snd h2⟩
    refine ⟨(h 0).resolve_right fun e => ?_, fun p hp => (h _).resolve_right fun e => ?_, fun i hi => (h _).imp id fun e => ?_⟩
    · obtain ⟨j, p, h1, h2, _⟩ := hk 0 e
      rw [(slot_range (isPg_iff.1 h1)).1] at h2
      have := isPg_iff.1 h1
      omega
    · obtain ⟨j, x, h1, h2, _⟩ := hk _ e
      exact (home_ne hp).2 _ h1 h2
    · obtain ⟨j, x, h1, h2, h3, h4⟩ := hk _ e
      obtain ⟨_, _, u2, _⟩ := un_pack (hI.pack h3)
      rw [h4, u2]
      omega
  rcases runW_mid (logW s.size (q + 1) 0 ps) [] s hu (mid_calm hd hc) (by omega) (logW_ok hI) with ⟨a1, a2, a3, a4, a5⟩ | ⟨a1, a2⟩
  rotate_left
  · rw [if_pos a1] at hce
    rw [hce]
    rw [List.nil_append] at a2
    obtain ⟨m1, m2, m3, m4, m5, m6⟩ := mid_crash a2 keep
    exact ⟨m3, m1, m2, m4.trans l2, by show (crashS (runW dsO s (logW s.size (q + 1) 0 ps)).1 keep).writes ≤ _; omega, .inl ⟨a1, oldc _ m6⟩⟩
  rw [if_neg (by rw [a1]; decide)] at hce
  generalize runW dsO s (logW s.size (q + 1) 0 ps) = r1 at a1 a2 a3 a4 a5 l1 l2 hce
  have hs1 : secB r1.1 = putAll (secB s) (logW s.size (q + 1) 0 ps) := funext a5
  obtain ⟨k1, k2⟩ := runW_le [(0, noteB (ps.length : Int) (q + 1))] r1.1
  replace k1 : (runW dsO r1.1 [(0, noteB (ps.length : Int) (q + 1))]).1.writes ≤ r1.1.writes + ((1 : Nat) : Int) := k1
  rcases runW_mid [(0, noteB (ps.length : Int) (q + 1))] [] r1.1 a2 (mid_calm a3 a4) (by show r1.1.writes + ((1 : Nat) : Int) < _; omega) (by rw [l2]; exact note_ok hn hI) with ⟨b1, b2, b3, b4, b5⟩ | ⟨b1, b2⟩
  rotate_left
  · rw [if_pos b1] at hce
    rw [hce]
    rw [List.nil_append] at b2
    obtain ⟨m1, m2, m3, m4, m5, m6⟩ := mid_crash b2 keep
    refine ⟨m3, m1, m2, m4.trans (k2.trans l2), by show (crashS (runW dsO r1.1 [(0, noteB (ps.length : Int) (q + 1))]).1 keep).writes ≤ _; omega, ?_⟩
    generalize crashS (runW dsO r1.1 [(0, noteB (ps.length : Int) (q + 1))]).1 keep = s2 at m6
    have hk : ∀ k, k ≠ 0 → secB s2 k = putAll (secB s) (logW s.size (q + 1) 0 ps) k := fun k h => by
      rw [← hs1]
      refine (m6 k).resolve_right fun e => ?_
      rw [List.mem_singleton] at e
      exact h (congrArg Prod.fst e)
    rcases m6 0 with e | e
    · refine .inl ⟨b1, oldc _ fun k => ?_⟩
      by_cases h : k = 0
      · subst h
        rw [e, hs1]
        exact .inl p2
      · rw [hk k h]
        exact putAll_or _ _ k
    · rw [List.mem_singleton] at e
      refine .inr ⟨⟨(Prod.mk.inj e).2, fun j p hj => ?_⟩, fun p hp => .inl ?_⟩
      · have hjl := (List.getElem?_eq_some_iff.1 hj).1
        rw [hk _ (by rw [(slot_range (n := s.size) (i := (j : Int)) (by omega)).1]; omega)]
        exact p1 j p hj
      · rw [hk _ (home_ne hp).1]
        exact p3 p hp
  rw [if_neg (by rw [b1]; decide)] at hce
  generalize runW dsO r1.1 [(0, noteB (ps.length : Int) (q + 1))] = r2 at b1 b2 b3 b4 b5 k1 k2 hce
  have hs2 : secB r2.1 = putAll (putAll (secB s) (logW s.size (q + 1) 0 ps)) [(0, noteB (ps.length : Int) (q + 1))] := by rw [← hs1]; exact funext b5
  obtain ⟨g1, g2⟩ := slots_put hI (secB s)
  rw [← hs2] at g1
  obtain ⟨j1, j2⟩ := runW_le (homW s.size (q + 1) ps) r2.1
  have hnew : New s.size (q + 1) ps (secB s) (secB r2.1) := ⟨g1, fun p hp => .inl (by rw [hs2]; exact g2 p hp)⟩
  have hX := cls_new (c0 := secB s) hn hI
  have hwh := slots_whole hI g1
  rw [hce]
  rcases runW_mid (homW s.size (q + 1) ps) [] r2.1 b2 (mid_calm b3 b4) (by omega) (by rw [k2, l2]; exact homW_ok hI) with ⟨c1, c2, c3, c4, c5⟩ | ⟨c1, c2⟩
  · obtain ⟨m1, m2, m3, m4, m5, m6⟩ := calm_crash c3 c4 keep
    refine ⟨m3, m1, m2, m4.trans (j2.trans (k2.trans l2)), by show (crashS (runW dsO r2.1 (homW s.size (q + 1) ps)).1 keep).writes ≤ _; omega, .inr (hX.ok _ _ hnew hwh _ fun k => ?_)⟩
    show secB (crashS (runW dsO r2.1 (homW s.size (q + 1) ps)).1 keep) k = _ ∨ _
    rw [m6, c5]
    exact putAll_or _ _ k
  · rw [List.nil_append] at c2
    obtain ⟨m1, m2, m3, m4, m5, m6⟩ := mid_crash c2 keep
    exact ⟨m3, m1, m2, m4.trans (j2.trans (k2.trans l2)), by show (crashS (runW dsO r2.1 (homW s.size (q + 1) ps)).1 keep).writes ≤ _; omega, .inr (hX.ok _ _ hnew hwh _ m6)⟩
theorem base_done {n q : Int} {ps : List (Int × List UInt8)} {c0 c : Int → List UInt8} (hn : 3 ≤ n) (hI : Ims n q ps) (h : Done n q ps c0 c) : Base n (ps.length : Int) q c := by
  refine ⟨rdN_note hn hI.note h.slots.mark, fun ws e => ?_⟩
  rw [slots_whole hI h.slots] at e
  cases e
  refine ⟨homW_ok hI, fun p hp => ?_⟩
  obtain ⟨x, hx, rfl⟩ := List.mem_map.1 hp
  exact h.yes x hx
/-- Pages with some of them otherwise. -/
def vw (ps : List (Int × List UInt8)) (g : Int → List UInt8) (p : Int) : List UInt8 := putAll g ps p
theorem pg_old {n q : Int} {c0 c : Int → List UInt8} (h : Old n q c0 c) {p : Int} (hp : isPg n p = true) : pgOf n c p = pgOf n c0 p := by unfold pgOf; rw [h.home p hp]
theorem pg_pack {n q : Int} {ps : List (Int × List UInt8)} {c : Int → List UInt8} (hI : Ims n q ps) {x : Int × List UInt8} (hx : x ∈ ps) (h : c (homeI n x.1) = packB x.1 q x.2) : pgOf n c x.1 = x.2 := by
  obtain ⟨_, u1, _, u3, u4⟩ := un_pack (hI.pack hx)
  unfold pgOf
  rw [h, u1, u3, u4, if_neg (by rintro (e | e) <;> exact e rfl)]
theorem pg_done {n q : Int} {ps : List (Int × List UInt8)} {c0 c : Int → List UInt8} (hI : Ims n q ps) (h : Done n q ps c0 c) {p : Int} (hp : isPg n p = true) : pgOf n c p = putAll (pgOf n c0) ps p := by
  by_cases e : ∃ x ∈ ps, x.1 = p
  · obtain ⟨x, hx, rfl⟩ := e
    rw [pg_pack hI hx (h.yes x hx)]
    exact (putAll_yes hI.nod hx _).symm
  · have hno : ∀ x ∈ ps, x.1 ≠ p := fun x hx e2 => e ⟨x, hx, e2⟩
    rw [putAll_no _ _ hno]
    unfold pgOf
    rw [h.no p hp hno]
theorem pg_len (n : Int) (c : Int → List UInt8) (p : Int) : (pgOf n c p).length = 240 := by
  unfold pgOf
  split
  · unfold zeros240; rw [List.length_replicate]
  · next h =>
    have h1 : unE (c (homeI n p)) = 0 := by
      cases e : decide (unE (c (homeI n p)) = 0) with
      | true => exact of_decide_eq_true e
      | false => exact absurd (.inl (of_decide_eq_false e)) h
    have hl := unE_len h1
    unfold unE at h1
    split at h1
    · next ho =>
      unfold unD
      rw [if_pos ho, List.length_drop, hl]
    · cases h1
end Go.Proofs.YtmpiggcooboenaaDoor.Al
/- bytes.Repeat of one byte, 240 times; the laws' own words: page, some, all. -/
namespace Go.Proofs.YtmpiggcooboenaaDoor.Al
open Go Go.Al Go.Proofs Go.RowKit
set_option maxHeartbeats 8000000
set_option maxRecDepth 100000
set_option linter.unusedVariables false
set_option linter.unusedSimpArgs false
theorem mul64b (F : Heap) : FnK Tryd.prog 126 #[.int .u64 1, .int .u64 240] F (fun v F' => v = .tuple #[.int .u64 0, .int .u64 240] ∧ F' = F) := by
  (refine fn_walk tab_ok Tryd.func126 rfl rfl rfl rfl ?_; (conv => whnf))
  repeat (refine ⟨by decide, ?_⟩; (conv => whnf))
  exact ⟨rfl, rfl⟩
theorem mulBitsb (F : Heap) : FnK Tryd.prog 121 #[.int .u64 1, .int .u64 240] F (fun v F' => v = .tuple #[.int .u64 0, .int .u64 240] ∧ F' = F) := by
  (refine fn_walk tab_ok Tryd.func121 rfl rfl rfl rfl ?_; (conv => whnf))
  refine call_of (mul64b F) ?_
  rintro v F2 ⟨rfl, rfl⟩
  (conv => whnf)
  exact ⟨rfl, rfl⟩
theorem repeat240 (x : UInt8) (A : Option Addr) (c : Nat) (F : Heap) (hr : RowAt F A (bytesOf [x])) :
    FnK Tryd.prog 110 #[.slice A 1 c, .int .i64 240] F (fun v F' => NewRow F F' v (List.replicate 240 x) ∧ Ext F F') := by
  (refine fn_walk tab_ok Tryd.func110 rfl rfl rfl rfl ?_; (conv => whnf))
  refine call_of (mulBitsb F) ?_
  rintro v F2 ⟨rfl, rfl⟩
  ((conv => whnf); repeat (first | (apply load_at; (conv => lhs; whnf); (with_reducible assumption); rfl; (conv => whnf)) | (apply load_at; (conv => lhs; rw [add_plain, add_plain]); (with_reducible assumption); rfl; (conv => whnf)) | (apply loads_at; (conv => lhs; whnf); (with_reducible assumption); rfl; (conv => whnf)) | (refine ⟨⟨by omega, by omega⟩, ?_⟩; (conv => whnf))))
  refine makeNoZero 240 _ rfl (by decide) fun g cs N hg hN hcs => ?_
  have hE := Ext.new hg (.cells cs 5)
  have hB := Heap.put_same F2 g (.cells cs 5)
  generalize F2.put g _ = F3 at hE hB ⊢
  have hr3 := hr.mono hE
  (conv => whnf)
  refine ⟨⟨by decide, by rw [show IntKind.i64.wrap 240 = 240 by decide]; omega⟩, ?_⟩
  (conv => whnf)
  refine ⟨⟨by decide, by decide⟩, ?_⟩
  (conv => whnf)
  refine copy_to (g := g) (off := 0) (dl := 240) (dc := 240) (m := 1) (ys := bytesOf [x]) (y := .slice A 1 c) tab_ok rfl ?hp rfl rfl rfl rfl ⟨rfl, .inl ⟨_, _, rfl, hr3⟩⟩ hB (Nat.le_refl 0) (by omega) (hone_bytes [x]) ?_
  case hp => rfl
  (conv => whnf)
  refine loop_slots [7, 8, 9, 10] (fun k vs F' => ∃ (bp : Nat) (cs' : Array Value), bp + k = 240 ∧ 1 ≤ bp ∧ vs = [.int .i64 240, .int .i64 240, .slice (some ⟨g, 0, none⟩) 240 240, .int .i64 (bp : Int)] ∧ F' g = some (.cells cs' 5) ∧ cs'.size = N ∧ cs'.toList.take bp = bytesOf (List.replicate bp x) ∧ Ext F2 F') 239 ?_ ?_
  · refine ⟨1, _, rfl, Nat.le_refl 1, ?_, Heap.put_same _ _ _, ?_, ?_, hE.put hg _⟩
    · rfl
    · rw [List.size_toArray, length_putL, Array.length_toList, hcs]
    · exact putL_take (vs := bytesOf [x]) (off := 0) (by show 0 + 1 ≤ cs.toList.length; rw [Array.length_toList, hcs]; omega)
  rintro k vs F4 ρ ⟨bp, cs', hbk, hbp, rfl, hB4, hcs', htk, hE4⟩
  (conv => whnf)
  refine cond_split (fun h => ?_) (fun h => ?_)
  · have hlt : bp < 240 := by
      have : (bp : Int) < 240 := of_decide_eq_true h
      omega
    (conv => whnf)
    refine draw_walk tab_ok (by kernel_rfl) [0, 1, 2, 3, 4, 5, 6, 7, 8, 9] (by kernel_rfl) ?_
    (conv => whnf)
    refine ⟨⟨by omega, by omega⟩, ?_⟩
    (conv => whnf)
    refine ⟨⟨by omega, ?hb⟩, ?_⟩
    case hb => split <;> omega
    (conv => whnf)
    refine copy_to (g := g) (off := bp) (dl := 240 - bp) (dc := 240 - bp) (m := bp) (ys := bytesOf (List.replicate bp x)) (y := .slice (some ⟨g, 0, none⟩) bp 240) tab_ok rfl ?hp ?hq rfl rfl rfl ⟨by simp [bytesOf], .inl ⟨_, _, rfl, by rw [← htk]; exact (row_blk hB4).take bp⟩⟩ hB4 (Nat.le_refl 0) (by omega) (hone_bytes _) ?_
    case hp =>
      conv => lhs; whnf
      refine slice_eq ?_ (by omega) (by omega)
      rw [if_neg (by omega), Int.toNat_natCast]
      show some (Addr.add ⟨g, 0, none⟩ (bp * 1)) = _
      rw [add_plain, Nat.zero_add, Nat.mul_one]
    case hq =>
      conv => lhs; whnf
      refine slice_eq rfl ?_ rfl
      rw [if_neg (by omega)]
      omega
    have hmb : min bp (240 - bp) ≤ bp := by omega
    have hle : bp + min bp (240 - bp) ≤ 240 := by omega
    have hpos : 1 ≤ min bp (240 - bp) := by omega
    generalize min bp (240 - bp) = mn at hle hpos hmb ⊢
    (conv => whnf)
    refine ⟨240 - (bp + mn), by omega, bp + mn, _, by omega, by omega, ?_, Heap.put_same _ _ _, ?_, ?_, hE4.put hg _⟩
    · show [Value.int .i64 240, .int .i64 240, .slice (some ⟨g, 0, none⟩) 240 240, .int .i64 (IntKind.i64.wrap ((bp : Int) + (mn : Int)))] = _
      rw [wrap_eq (by omega) (by omega)]
      rfl
    · rw [List.size_toArray, length_putL, Array.length_toList, hcs']
    · have hlen : (List.take mn (bytesOf (List.replicate bp x))).length = mn := by simp [bytesOf]; omega
      have := putL_take (vs := List.take mn (bytesOf (List.replicate bp x))) (cs := cs'.toList) (off := bp) (by rw [hlen, Array.length_toList, hcs']; omega)
      rw [hlen, htk] at this
      rw [List.toList_toArray, this]
      unfold bytesOf
      rw [← List.map_take, ← List.map_append, List.take_replicate, List.replicate_append_replicate, Nat.min_eq_left hmb]
  · have hlt : bp = 240 := by
      have : ¬ (bp : Int) < 240 := of_decide_eq_false h
      omega
    subst hlt
    (conv => whnf)
    refine ⟨⟨some ⟨g, 0, none⟩, 240, rfl, Nat.le_refl _, ?_, fun a ha => by obtain rfl := Option.some.inj ha; exact hg⟩, hE4⟩
    rw [← htk]
    exact (row_blk hB4).take 240
theorem page6 (x : UInt8) (F : Heap) : FnK Tryd.prog 69 #[.int .u8 x.toNat] F (fun v F' => NewRow F F' v (List.replicate 240 x) ∧ Ext F F') := by
  (refine fn_walk tab_ok Tryd.func69 rfl rfl rfl rfl ?_; (conv => whnf))
  refine new_step (.cells #[.int .u8 x.toNat] 5) rfl fun g h0_g => ?_
  have hE_g := Ext.new h0_g (.cells #[.int .u8 x.toNat] 5)
  have hB_g := Heap.put_same F g (.cells #[.int .u8 x.toNat] 5)
  generalize F.put g _ = F1 at hE_g hB_g ⊢
  (conv => whnf)
  refine call_of (repeat240 x (some ⟨g, 0, none⟩) 1 F1 ?_) ?_
  · exact row_blk hB_g
  rintro v F2 ⟨⟨A, c, rfl, h1, h2, h3⟩, hE⟩
  ((conv => whnf); repeat (first | (apply load_at; (conv => lhs; whnf); (with_reducible assumption); rfl; (conv => whnf)) | (apply load_at; (conv => lhs; rw [add_plain, add_plain]); (with_reducible assumption); rfl; (conv => whnf)) | (apply loads_at; (conv => lhs; whnf); (with_reducible assumption); rfl; (conv => whnf)) | (refine ⟨⟨by omega, by omega⟩, ?_⟩; (conv => whnf))))
  exact ⟨⟨A, c, rfl, h1, h2, fun a ha => hE_g.none (h3 a ha)⟩, hE_g.trans hE⟩
end Go.Proofs.YtmpiggcooboenaaDoor.Al
/- The laws' own words: some, all. -/
namespace Go.Proofs.YtmpiggcooboenaaDoor.Al
open Go Go.Al Go.Proofs Go.RowKit
set_option maxHeartbeats 8000000
set_option maxRecDepth 100000
set_option linter.unusedVariables false
set_option linter.unusedSimpArgs false
theorem indexI (id : Nat) (caps : List Value) (P : PcR → Bool) (ds : List PcR) (A : Option Addr) (c : Nat) (F : Heap) (hr : RowAt F A (rowS pcC ds)) (hl : ds.length ≤ 100000)
    (hf : ∀ d ∈ ds, ∀ G, Ext F G → FnK Tryd.prog id ([Value.agg (pcC d).toArray] ++ caps).toArray G (fun v F' => v = .bool (P d) ∧ Ext G F')) :
    FnK Tryd.prog 111 #[.slice A ds.length c, .func (.func id) #[] caps.toArray] F (fun v F' => (∃ r : Int, v = .int .i64 r ∧ decide (r ≥ 0) = ds.any P) ∧ Ext F F') := by
  (refine fn_walk tab_ok Tryd.func111 rfl rfl rfl rfl ?_; (conv => whnf))
  refine loop_slots [0, 1, 7, 8] (fun mm vs F' => ∃ j : Nat, j + mm = ds.length ∧ vs = [.slice A ds.length c, .func (.func id) #[] caps.toArray, .int .i64 (ds.length : Int), .int .i64 (j : Int)] ∧ (ds.take j).any P = false ∧ Ext F F') ds.length ⟨0, by omega, rfl, rfl, Ext.refl F⟩ ?_
  rintro mm vs F2 ρ ⟨j, hjm, rfl, hix, hE2⟩
  (conv => whnf)
  refine cond_split (fun h => ?_) (fun h => ?_)
  · have hj : j < ds.length := by have := of_decide_eq_true h; omega
    obtain ⟨ad, rfl⟩ := hr.some (by rw [rowS_len pcC_len]; omega)
    have hf1 := hf ds[j] (List.getElem_mem hj) F2 hE2
    have hx : ds[j]? = some ds[j] := List.getElem?_eq_getElem hj
    have hstep : (ds.take (j + 1)).any P = P ds[j] := by
      rw [List.take_add_one, hx, Option.toList_some, List.any_append, hix]
      simp
    have hL : ∀ K : Value → Prop, K (.agg (pcC ds[j]).toArray) → LoadsK F2 (ad.add (Int.toNat (j : Int) * 2)) 2 K := fun K hk => rowS_loads pcC_len (by decide) (hr.mono hE2) hx hk
    have hex : P ds[j] = true → ds.any P = true := fun e => List.any_eq_true.2 ⟨_, List.getElem_mem hj, e⟩
    generalize ds[j] = r at hf1 hL hstep hex
    generalize P r = z at hf1 hstep hex
    (conv => whnf)
    refine ⟨⟨by omega, by omega⟩, ?_⟩
    (conv => whnf)
    refine hL _ ?_
    (conv => whnf)
    refine call_of hf1 ?_
    rintro v F3 ⟨rfl, hE3⟩
    replace hE3 := hE2.trans hE3
    cases z with
    | true =>
      have := hex rfl
      (conv => whnf)
      exact ⟨⟨(j : Int), rfl, by rw [this]; simp⟩, hE3⟩
    | false =>
      (conv => whnf)
      refine ⟨mm - 1, by omega, j + 1, by omega, ?_, hstep, hE3⟩
      have hw : IntKind.i64.wrap ((j : Int) + 1) = ((j + 1 : Nat) : Int) := by rw [IntKind.wrap_i64]; omega
      rw [← hw]
      rfl
  · have hj : j = ds.length := by have := of_decide_eq_false h; omega
    rw [hj, List.take_length] at hix
    (conv => whnf)
    exact ⟨⟨-1, rfl, by rw [hix]; rfl⟩, hE2⟩
theorem containsI (id : Nat) (caps : List Value) (P : PcR → Bool) (ds : List PcR) (A : Option Addr) (c : Nat) (F : Heap) (hr : RowAt F A (rowS pcC ds)) (hl : ds.length ≤ 100000)
    (hf : ∀ d ∈ ds, ∀ G, Ext F G → FnK Tryd.prog id ([Value.agg (pcC d).toArray] ++ caps).toArray G (fun v F' => v = .bool (P d) ∧ Ext G F')) :
    FnK Tryd.prog 71 #[.slice A ds.length c, .func (.func id) #[] caps.toArray] F (fun v F' => v = .bool (ds.any P) ∧ Ext F F') := by
  have hi := indexI id caps P ds A c F hr hl hf
  generalize ds.any P = q at hi
  (refine fn_walk tab_ok Tryd.func71 rfl rfl rfl rfl ?_; (conv => whnf))
  refine call_of hi ?_
  rintro v F1 ⟨⟨r, rfl, hr'⟩, hE⟩
  (conv => whnf)
  exact ⟨congrArg Value.bool hr', hE⟩
theorem isPage (d : PcR) (p : PcR) (g : Nat) (F : Heap) (hp : F g = some (imO p)) :
    FnK Tryd.prog 72 ([Value.agg (pcC d).toArray] ++ [Value.pointer (some ⟨g, 0, none⟩)]).toArray F (fun v F' => v = .bool (d.at_ == p.at_) ∧ Ext F F') := by
  (refine fn_walk tab_ok Tryd.func72 rfl rfl rfl rfl ?_; (conv => whnf))
  refine new_step (.cells (pcC d).toArray 67) rfl fun t h0_t => ?_
  have hE_t := Ext.new h0_t (.cells (pcC d).toArray 67)
  have hB_t := Heap.put_same F t (.cells (pcC d).toArray 67)
  generalize F.put t _ = F1 at hE_t hB_t ⊢
  have hp1 := hE_t _ _ hp
  ((conv => whnf); repeat (first | (apply load_at; (conv => lhs; whnf); (with_reducible assumption); rfl; (conv => whnf)) | (apply load_at; (conv => lhs; rw [add_plain, add_plain]); (with_reducible assumption); rfl; (conv => whnf)) | (apply loads_at; (conv => lhs; whnf); (with_reducible assumption); rfl; (conv => whnf)) | (refine ⟨⟨by omega, by omega⟩, ?_⟩; (conv => whnf))))
  exact ⟨rfl, hE_t⟩
/-- Images of pages, each once, as the law makes them. -/
def someS (y : UInt8) : Nat → List UInt8 → List (Int × List UInt8) → List (Int × List UInt8)
  | _, [], acc => acc
  | i, n :: l, acc => someS y (i + 1) l (if acc.any (fun d => d.1 == ((n.toNat % 13 : Nat) : Int)) = true then acc else acc ++ [(((n.toNat % 13 : Nat) : Int), List.replicate 240 (y + UInt8.ofNat i))])
theorem u8_of (i : Nat) : IntKind.u8.wrap (i : Int) = ((UInt8.ofNat i).toNat : Int) := by
  rw [u8_wrap, UInt8.toNat_ofNat']
  omega
theorem u8_add (a b : UInt8) : IntKind.u8.wrap ((a.toNat : Int) + (b.toNat : Int)) = ((a + b).toNat : Int) := by
  rw [u8_wrap, UInt8.toNat_add]
  omega
theorem some6 (l : List UInt8) (y : UInt8) (A : Option Addr) (c : Nat) (F : Heap) (hr : RowAt F A (bytesOf l)) (hl : l.length ≤ 1000) :
    FnK Tryd.prog 26 #[.slice A l.length c, .int .u8 y.toNat] F (fun v F' => (∃ (ps : List PcR) (B : Option Addr) (c' : Nat), v = .slice B ps.length c' ∧ RowAt F' B (rowS pcC ps) ∧ (∀ a, B = some a → F a.block = none) ∧ (∀ p ∈ ps, PcOk F' p ∧ ∀ a, p.A = some a → F a.block = none) ∧ ps.map pcW = someS y 0 l []) ∧ Ext F F') := by
  obtain ⟨res, hres⟩ : ∃ r, r = someS y 0 l [] := ⟨_, rfl⟩
  rw [← hres]
  (refine fn_walk tab_ok Tryd.func26 rfl rfl rfl rfl ?_; (conv => whnf))
  refine loop_slots [1, 5, 9, 10, 11] (fun k vs F' => ∃ (i : Nat) (S : Value) (ps : List PcR) (G : Heap), i + k = l.length ∧ ps.length ≤ i ∧ vs = [.int .u8 y.toNat, S, .slice A l.length c, .int .i64 (l.length : Int), .int .i64 (i : Int)] ∧ Mine F F' S 67 2 ps.length (rowS pcC ps) ∧ PcsK F F' S ps G ∧ res = someS y i (l.drop i) (ps.map pcW)) l.length ⟨0, .slice none 0 0, [], F, by omega, Nat.le_refl 0, rfl, Mine.nil _ _ _ _ (Ext.refl _), ⟨Ext.refl _, (fun k h => by cases h), (fun p h => by cases h), fun p h => by cases h⟩, hres⟩ ?_
  rintro k vs F2 ρ ⟨i, S, ps, G, hik, hpi, rfl, hM, hP, hrs⟩
  ((conv => whnf); repeat (first | (apply load_at; (conv => lhs; whnf); (with_reducible assumption); rfl; (conv => whnf)) | (apply load_at; (conv => lhs; rw [add_plain, add_plain]); (with_reducible assumption); rfl; (conv => whnf)) | (apply loads_at; (conv => lhs; whnf); (with_reducible assumption); rfl; (conv => whnf)) | (refine ⟨⟨by omega, by omega⟩, ?_⟩; (conv => whnf))))
  refine cond_split (fun h => ?_) (fun h => ?_)
  · have hi : i < l.length := by
      have h : decide ((i : Int) < (l.length : Int)) = true := h
      have := of_decide_eq_true h
      omega
    obtain ⟨ad, rfl⟩ := hr.some (by rw [bytes_len]; omega)
    rw [List.drop_eq_getElem_cons hi] at hrs
    have hcl := byte_cell (hr.mono hM.ext) hi
    generalize l[i] = x at hrs hcl
    have hm13 : ((x.toNat : Int).tmod 13) = ((x.toNat % 13 : Nat) : Int) := by rw [Int.tmod_eq_emod_of_nonneg (by omega)]; omega
    replace hrs : res = someS y (i + 1) (l.drop (i + 1)) (if (ps.map pcW).any (fun d => d.1 == ((x.toNat % 13 : Nat) : Int)) = true then ps.map pcW else ps.map pcW ++ [(((x.toNat % 13 : Nat) : Int), List.replicate 240 (y + UInt8.ofNat i))]) := hrs
    have hany : (ps.map pcW).any (fun d => d.1 == ((x.toNat % 13 : Nat) : Int)) = ps.any (fun d => d.at_ == ((x.toNat % 13 : Nat) : Int)) := by rw [List.any_map]; rfl
    rw [hany] at hrs
    have hmm : x.toNat % 13 < 13 := Nat.mod_lt _ (by decide)
    generalize x.toNat % 13 = m at hm13 hrs hmm
    have hpg := fun F => page6 (y + UInt8.ofNat i) F
    rw [← u8_add, ← u8_of i] at hpg
    generalize y + UInt8.ofNat i = z at hpg hrs
    ((conv => whnf); repeat (first | (apply load_at; (conv => lhs; whnf); (with_reducible assumption); rfl; (conv => whnf)) | (apply load_at; (conv => lhs; rw [add_plain, add_plain]); (with_reducible assumption); rfl; (conv => whnf)) | (apply loads_at; (conv => lhs; whnf); (with_reducible assumption); rfl; (conv => whnf)) | (refine ⟨⟨by omega, by omega⟩, ?_⟩; (conv => whnf))))
    refine load_step hcl ?_
    ((conv => whnf); repeat (first | (apply load_at; (conv => lhs; whnf); (with_reducible assumption); rfl; (conv => whnf)) | (apply load_at; (conv => lhs; rw [add_plain, add_plain]); (with_reducible assumption); rfl; (conv => whnf)) | (apply loads_at; (conv => lhs; whnf); (with_reducible assumption); rfl; (conv => whnf)) | (refine ⟨⟨by omega, by omega⟩, ?_⟩; (conv => whnf))))
    refine ⟨by decide, ?_⟩
    ((conv => whnf); repeat (first | (apply load_at; (conv => lhs; whnf); (with_reducible assumption); rfl; (conv => whnf)) | (apply load_at; (conv => lhs; rw [add_plain, add_plain]); (with_reducible assumption); rfl; (conv => whnf)) | (apply loads_at; (conv => lhs; whnf); (with_reducible assumption); rfl; (conv => whnf)) | (refine ⟨⟨by omega, by omega⟩, ?_⟩; (conv => whnf))))
    rw [hm13]
    refine call_of (hpg F2) ?_
    rintro v F3 ⟨⟨B, bc, rfl, hbc, hbr, hbf⟩, hE3⟩
    ((conv => whnf); repeat (first | (apply load_at; (conv => lhs; whnf); (with_reducible assumption); rfl; (conv => whnf)) | (apply load_at; (conv => lhs; rw [add_plain, add_plain]); (with_reducible assumption); rfl; (conv => whnf)) | (apply loads_at; (conv => lhs; whnf); (with_reducible assumption); rfl; (conv => whnf)) | (refine ⟨⟨by omega, by omega⟩, ?_⟩; (conv => whnf))))
    refine new_step (.cells #[.int .i64 0, .slice none 0 0] 67) rfl fun u h0_u => ?_
    have hE_u := Ext.new h0_u (.cells #[.int .i64 0, .slice none 0 0] 67)
    have hB_u := Heap.put_same F3 u (.cells #[.int .i64 0, .slice none 0 0] 67)
    generalize F3.put u _ = F4 at hE_u hB_u ⊢
    ((conv => whnf); repeat (first | (apply load_at; (conv => lhs; whnf); (with_reducible assumption); rfl; (conv => whnf)) | (apply load_at; (conv => lhs; rw [add_plain, add_plain]); (with_reducible assumption); rfl; (conv => whnf)) | (apply loads_at; (conv => lhs; whnf); (with_reducible assumption); rfl; (conv => whnf)) | (refine ⟨⟨by omega, by omega⟩, ?_⟩; (conv => whnf))))
    rw [wrap_eq (show -9223372036854775808 ≤ ((m : Nat) : Int) by omega) (by omega)]
    refine store_step u 0 _ (pcC ⟨(m : Int), List.replicate 240 z, B, bc⟩).toArray rfl hB_u rfl rfl (.inl (Nat.le_refl 0)) (pc_one ⟨(m : Int), List.replicate 240 z, B, bc⟩) ?_
    have hB5 := Heap.put_same F4 u (imO ⟨(m : Int), List.replicate 240 z, B, bc⟩)
    have hE5 : Ext F3 (F4.put u (imO ⟨(m : Int), List.replicate 240 z, B, bc⟩)) := hE_u.put h0_u _
    generalize F4.put u _ = F5 at hB5 hE5 ⊢
    have hE25 := hE3.trans hE5
    have hM5 := hM.mono hE25
    have hT5 : RowAt F5 B (bytesOf (List.replicate 240 z)) := hbr.mono hE5
    obtain ⟨SA, Sc, hSe, _, hSr⟩ := hM5.own.row
    have kI := containsI 72 [.pointer (some ⟨u, 0, none⟩)] (fun d => d.at_ == (m : Int)) ps SA Sc F5 hSr (by omega) (fun d hd G hG => isPage d ⟨(m : Int), List.replicate 240 z, B, bc⟩ u G (hG _ _ hB5))
    rw [← hSe] at kI
    generalize (ps.any fun d => d.at_ == (m : Int)) = w at kI hrs
    refine short [1, 5, 8, 9, 10, 11] [.int .u8 y.toNat, S, .pointer (some ⟨u, 0, none⟩), .slice (some ad) l.length c, .int .i64 (l.length : Int), .int .i64 (i : Int)] rfl fun ρ => ?_
    ((conv => whnf); repeat (first | (apply load_at; (conv => lhs; whnf); (with_reducible assumption); rfl; (conv => whnf)) | (apply load_at; (conv => lhs; rw [add_plain, add_plain]); (with_reducible assumption); rfl; (conv => whnf)) | (apply loads_at; (conv => lhs; whnf); (with_reducible assumption); rfl; (conv => whnf)) | (refine ⟨⟨by omega, by omega⟩, ?_⟩; (conv => whnf))))
    refine call_of kI ?_
    rintro v F6 ⟨rfl, hE6⟩
    have hE26 := hE25.trans hE6
    have hB6 := hE6 _ _ hB5
    have hM6 := hM5.mono hE6
    have hG1 : Ext (gain G F2 F5) F6 := fun zz o hz => by
      cases e : F2 zz with
      | none => rw [gain_new e] at hz; exact hE6 _ _ hz
      | some uu => rw [gain_old e] at hz; exact hE26 _ _ (hP.base _ _ hz)
    have hG0 : ∀ k, blk S = some k → gain G F2 F5 k = none := fun k hk => by
      cases e : F2 k with
      | none => exact absurd e (hM.own.there hk)
      | some uu => rw [gain_old e]; exact hP.out k hk
    have hGG : Ext G (gain G F2 F5) := gain_ext hP.base
    refine short [1, 5, 8, 9, 10, 11, 27] [.int .u8 y.toNat, S, .pointer (some ⟨u, 0, none⟩), .slice (some ad) l.length c, .int .i64 (l.length : Int), .int .i64 (i : Int), .bool w] rfl fun ρ => ?_
    cases w with
    | true =>
      rw [if_pos rfl] at hrs
      ((conv => whnf); repeat (first | (apply load_at; (conv => lhs; whnf); (with_reducible assumption); rfl; (conv => whnf)) | (apply load_at; (conv => lhs; rw [add_plain, add_plain]); (with_reducible assumption); rfl; (conv => whnf)) | (apply loads_at; (conv => lhs; whnf); (with_reducible assumption); rfl; (conv => whnf)) | (refine ⟨⟨by omega, by omega⟩, ?_⟩; (conv => whnf))))
      refine ⟨k - 1, by omega, i + 1, S, ps, gain G F2 F5, by omega, by omega, ?_, hM6, ⟨hG1, hG0, fun p hp => (hP.ok p hp).mono hGG, hP.new⟩, hrs⟩
      rw [← wrap_succ (j := i) (by omega)]
      rfl
    | false =>
      rw [if_neg (by decide)] at hrs
      ((conv => whnf); repeat (first | (apply load_at; (conv => lhs; whnf); (with_reducible assumption); rfl; (conv => whnf)) | (apply load_at; (conv => lhs; rw [add_plain, add_plain]); (with_reducible assumption); rfl; (conv => whnf)) | (apply loads_at; (conv => lhs; whnf); (with_reducible assumption); rfl; (conv => whnf)) | (refine ⟨⟨by omega, by omega⟩, ?_⟩; (conv => whnf))))
      refine new_step (.cells (rowS pcC [(⟨(m : Int), List.replicate 240 z, B, bc⟩ : PcR)]).toArray 67) rfl fun g h0_g => ?_
      have hE_g := Ext.new h0_g (.cells (rowS pcC [(⟨(m : Int), List.replicate 240 z, B, bc⟩ : PcR)]).toArray 67)
      have hB_g := Heap.put_same F6 g (.cells (rowS pcC [(⟨(m : Int), List.replicate 240 z, B, bc⟩ : PcR)]).toArray 67)
      generalize F6.put g _ = F7 at hE_g hB_g ⊢
      have hM7 := hM6.mono hE_g
      have hrow := row_blk hB_g
      rw [List.toList_toArray] at hrow
      ((conv => whnf); repeat (first | (apply load_at; (conv => lhs; whnf); (with_reducible assumption); rfl; (conv => whnf)) | (apply load_at; (conv => lhs; rw [add_plain, add_plain]); (with_reducible assumption); rfl; (conv => whnf)) | (apply loads_at; (conv => lhs; whnf); (with_reducible assumption); rfl; (conv => whnf)) | (refine ⟨⟨by omega, by omega⟩, ?_⟩; (conv => whnf))))
      refine append_own tab_ok (s := S) (n := ps.length) (xs := rowS pcC ps) (m := 1) (ys := rowS pcC [(⟨(m : Int), List.replicate 240 z, B, bc⟩ : PcR)]) (y := .slice (some ⟨g, 0, none⟩) 1 1) rfl rfl rfl rfl rfl ⟨_, rfl, fun k h => by cases h⟩ ⟨_, rfl, rfl⟩ (by decide) hM7.own ⟨rfl, .inl ⟨_, _, rfl, hrow⟩⟩ (pc_one _) (by show 2 * (ps.length + 1) * 32 ≤ _; omega) fun S2 F8 hO8 hk8 hf8 => ?_
      have hM8 : Mine F F8 S2 67 2 (ps ++ [(⟨(m : Int), List.replicate 240 z, B, bc⟩ : PcR)]).length (rowS pcC (ps ++ [(⟨(m : Int), List.replicate 240 z, B, bc⟩ : PcR)])) := by
        rw [rowS_app, List.length_append]
        refine ⟨hO8, fun k hk => ?_, hk8.ext hM7.ext hM7.fresh⟩
        rcases hf8 k hk with h | h
        · exact hM7.fresh k h
        · exact hM7.ext.none h
      have hG7 : Ext (gain G F2 F5) F7 := hG1.trans hE_g
      have hP8 : PcsK F F8 S2 (ps ++ [(⟨(m : Int), List.replicate 240 z, B, bc⟩ : PcR)]) (gain G F2 F5) := by
        refine ⟨hk8.ext hG7 hG0, fun k hk => ?_, fun x hx => ?_, fun x hx a ha => ?_⟩
        · rcases hf8 k hk with h | h
          · exact hG0 k h
          · exact hG7.none h
        · rcases List.mem_append.1 hx with hx | hx
          · exact (hP.ok x hx).mono hGG
          · rw [List.mem_singleton] at hx
            subst hx
            exact ⟨rowAt_gain hT5 hbf, by show (List.replicate 240 z).length ≤ 900000; rw [List.length_replicate]; omega⟩
        · rcases List.mem_append.1 hx with hx | hx
          · exact hP.new x hx a ha
          · rw [List.mem_singleton] at hx
            subst hx
            exact hM.ext.none (hbf a ha)
      ((conv => whnf); repeat (first | (apply load_at; (conv => lhs; whnf); (with_reducible assumption); rfl; (conv => whnf)) | (apply load_at; (conv => lhs; rw [add_plain, add_plain]); (with_reducible assumption); rfl; (conv => whnf)) | (apply loads_at; (conv => lhs; whnf); (with_reducible assumption); rfl; (conv => whnf)) | (refine ⟨⟨by omega, by omega⟩, ?_⟩; (conv => whnf))))
      refine ⟨k - 1, by omega, i + 1, S2, ps ++ [(⟨(m : Int), List.replicate 240 z, B, bc⟩ : PcR)], gain G F2 F5, by omega, by rw [List.length_append]; show ps.length + 1 ≤ i + 1; omega, ?_, hM8, hP8, ?_⟩
      · rw [← wrap_succ (j := i) (by omega)]
        rfl
      · rw [hrs]
        have e : (ps ++ [(⟨(m : Int), List.replicate 240 z, B, bc⟩ : PcR)]).map pcW = ps.map pcW ++ [((m : Int), List.replicate 240 z)] := List.map_append
        exact congrArg (someS y (i + 1) (l.drop (i + 1))) e.symm
  · have hi : i = l.length := by
      have := of_decide_eq_false h
      omega
    rw [List.drop_of_length_le (by omega)] at hrs
    obtain rfl : res = ps.map pcW := hrs
    obtain ⟨SA, Sc, rfl, _, hSr⟩ := hM.own.row
    ((conv => whnf); repeat (first | (apply load_at; (conv => lhs; whnf); (with_reducible assumption); rfl; (conv => whnf)) | (apply load_at; (conv => lhs; rw [add_plain, add_plain]); (with_reducible assumption); rfl; (conv => whnf)) | (apply loads_at; (conv => lhs; whnf); (with_reducible assumption); rfl; (conv => whnf)) | (refine ⟨⟨by omega, by omega⟩, ?_⟩; (conv => whnf))))
    exact ⟨⟨ps, SA, Sc, rfl, hSr, fun a ha => hM.fresh a.block (by rw [ha]; rfl), fun p hp => ⟨(hP.ok p hp).mono hP.base, hP.new p hp⟩, rfl⟩, hM.ext⟩
end Go.Proofs.YtmpiggcooboenaaDoor.Al
/- The laws' own words, 2: what some makes; a new log; all. -/
namespace Go.Proofs.YtmpiggcooboenaaDoor.Al
open Go Go.Al Go.Proofs Go.RowKit
set_option maxHeartbeats 8000000
set_option maxRecDepth 100000
set_option linter.unusedVariables false
set_option linter.unusedSimpArgs false
/-- Different numbers below n are no more than n. -/
theorem nodup_le : ∀ (n : Nat) (l : List Int), l.Nodup → (∀ x ∈ l, 0 ≤ x ∧ x < (n : Int)) → l.length ≤ n
  | 0, l, _, h => by
    cases l with
    | nil => exact Nat.le_refl 0
    | cons x l => have := h x List.mem_cons_self; omega
  | n + 1, l, hn, h => by
    have key : (l.filter fun x => x != (n : Int)).length ≤ n := nodup_le n _ (hn.filter _) fun x hx => by
      rw [List.mem_filter] at hx
      have h1 := h x hx.1
      have h2 : x ≠ (n : Int) := by simpa using hx.2
      omega
    have hc : l.length ≤ (l.filter fun x => x != (n : Int)).length + 1 := by
      clear key h
      induction l with
      | nil => exact Nat.zero_le _
      | cons x l ih =>
        rw [List.nodup_cons] at hn
        by_cases e : x = (n : Int)
        · have hf : l.filter (fun x => x != (n : Int)) = l := List.filter_eq_self.2 fun y hy => by
            have : y ≠ (n : Int) := fun e2 => hn.1 (by rw [e, ← e2]; exact hy)
            simpa using this
          rw [List.filter_cons_of_neg (by simpa using e), hf, List.length_cons]
          exact Nat.le_refl _
        · rw [List.filter_cons_of_pos (by simpa using e), List.length_cons, List.length_cons]
          have := ih hn.2
          omega
    omega
structure SomeOk (ps : List (Int × List UInt8)) : Prop where
  pg : ∀ p ∈ ps, (0 ≤ p.1 ∧ p.1 < 13) ∧ p.2.length = 240
  nod : (ps.map (·.1)).Nodup
theorem someS_ok (y : UInt8) : ∀ (l : List UInt8) (i : Nat) (acc : List (Int × List UInt8)), SomeOk acc → SomeOk (someS y i l acc)
  | [], i, acc, h => h
  | x :: l, i, acc, h => by
    have hm : x.toNat % 13 < 13 := Nat.mod_lt _ (by decide)
    show SomeOk (someS y (i + 1) l (if acc.any (fun d => d.1 == ((x.toNat % 13 : Nat) : Int)) = true then acc else acc ++ [(((x.toNat % 13 : Nat) : Int), List.replicate 240 (y + UInt8.ofNat i))]))
    generalize x.toNat % 13 = m at hm
    split
    · exact someS_ok y l (i + 1) acc h
    · next ha =>
      refine someS_ok y l (i + 1) _ ⟨fun p hp => ?_, ?_⟩
      · rcases List.mem_append.1 hp with hp | hp
        · exact h.pg p hp
        · rw [List.mem_singleton] at hp
          subst hp
          exact ⟨⟨by show (0 : Int) ≤ (m : Int); omega, by show (m : Int) < 13; omega⟩, List.length_replicate⟩
      · rw [List.map_append, List.nodup_append]
        refine ⟨h.nod, List.nodup_cons.2 ⟨List.not_mem_nil, List.nodup_nil⟩, fun a ha' b hb e => ?_⟩
        rw [List.map_cons, List.map_nil, List.mem_singleton] at hb
        obtain ⟨d, hd, e2⟩ := List.mem_map.1 ha'
        refine ha (List.any_eq_true.2 ⟨d, hd, ?_⟩)
        rw [beq_iff_eq, e2, e, hb]
theorem pages27 : pagesN 27 = 13 := by decide
theorem some_ims (y : UInt8) (l : List UInt8) {q : Int} (hq : 0 ≤ q ∧ q ≤ 4611686018427387904) : Ims 27 q (someS y 0 l []) := by
  have h := someS_ok y l 0 [] ⟨fun p hp => (by cases hp), List.nodup_nil⟩
  refine ⟨fun p hp => ⟨isPg_iff.2 (by rw [pages27]; exact (h.pg p hp).1), (h.pg p hp).2⟩, h.nod, ?_, hq⟩
  rw [pages27]
  have := nodup_le 13 _ h.nod fun x hx => by
    obtain ⟨p, hp, rfl⟩ := List.mem_map.1 hx
    exact (h.pg p hp).1
  rw [List.length_map] at this
  omega
theorem ims_nil {n q : Int} (hq : 0 ≤ q ∧ q ≤ 4611686018427387904) : Ims n q [] := ⟨fun p h => (by cases h), List.nodup_nil, (pagesN_le n).1, hq⟩
theorem new_up (n : Int) : Up (newS n) ∧ Calm (newS n) := ⟨⟨rfl, rfl⟩, ⟨fun _ => rfl, rfl⟩⟩
/-- A new log on a new disk. -/
abbrev fmtS (n : Int) : DS := (runW dsO (newS n) [(0, noteB 0 1)]).1
abbrev frsS (n : Int) : DS := (openS dsO (fmtS n)).1
structure Fresh (n : Int) (s : DS) : Prop where
  up : Up s
  wf : DWf s
  calm : Calm s
  size : s.size = n
  writes : s.writes = 1
  done : Done n 1 [] (secB s) (secB s)
  zero : ∀ k, k ≠ 0 → secB s k = List.replicate 256 0
theorem fmt_fresh {n : Int} (hn : 3 ≤ n ∧ n ≤ 65536) : (runW dsO (newS n) [(0, noteB 0 1)]).2 = 0 ∧ Fresh n (fmtS n) := by
  obtain ⟨u, c⟩ := new_up n
  have hI : Ims n 1 [] := ims_nil (by decide)
  have ho : OkW n [(0, noteB ((([] : List (Int × List UInt8)).length : Nat) : Int) 1)] := note_ok hn.1 hI
  obtain ⟨a1, a2, a3, a4, a5, a6, a7⟩ := runW_up [(0, noteB 0 1)] (newS n) u (newS_wf hn.1 hn.2) (by show (0 : Int) + ((1 : Nat) : Int) < _; omega) ho
  refine ⟨a1, a2, a3, a4, a7, a6.trans (by show (0 : Int) + ((1 : Nat) : Int) = 1; omega), ⟨⟨?_, fun j p h => (by cases h)⟩, fun x h => (by cases h), fun p _ _ => rfl⟩, fun k hk => ?_⟩
  · rw [a5, put_one, if_pos rfl]
    rfl
  · rw [a5, put_one, if_neg hk]
    rfl
theorem frs_fresh {n : Int} (hn : 3 ≤ n ∧ n ≤ 65536) : (openS dsO (fmtS n)).2 = (0, some 1) ∧ Fresh n (frsS n) := by
  obtain ⟨_, h⟩ := fmt_fresh hn
  show (openS dsO (fmtS n)).2 = (0, some 1) ∧ Fresh n (openS dsO (fmtS n)).1
  generalize fmtS n = s at h ⊢
  obtain ⟨u, w, c, sz, wr, d, z⟩ := h
  subst sz
  have hI : Ims s.size 1 [] := ims_nil (by decide)
  obtain ⟨b1, b2, b3, b4, b5, b6, b7, b8⟩ := open_up (cls_done (c0 := secB s) hn.1 hI) u w c (by omega) d
  obtain ⟨b9, b10⟩ := b8 [] (slots_whole hI d.slots)
  have e : secB (openS dsO s).1 = secB s := b9
  refine ⟨b1, b2, b3, b4, b5, by rw [b10, wr]; rfl, ?_, fun k hk => ?_⟩
  · show Done s.size 1 [] (secB (openS dsO s).1) (secB (openS dsO s).1)
    rw [e]; exact d
  · show secB (openS dsO s).1 k = _
    rw [e]; exact z k hk
/-- All pages, one behind the other. -/
def pgsN (g : Int → List UInt8) : Nat → List UInt8
  | 0 => []
  | n + 1 => pgsN g n ++ g (n : Int)
theorem pgsN_len {g : Int → List UInt8} (hg : ∀ p, (g p).length = 240) : ∀ n, (pgsN g n).length = n * 240
  | 0 => rfl
  | n + 1 => by
    show (pgsN g n ++ g (n : Int)).length = _
    rw [List.length_append, pgsN_len hg n, hg, Nat.succ_mul]
theorem all6 {D F : Heap} {b lb : Nat} {s : DS} {q : Int} (hE : Ext D F) (hD : Dk D b s) (hlg : F lb = some (lgO b q)) (hN : NibAt F) (hd : s.down = false) :
    FnK Tryd.prog 28 #[.pointer (some ⟨lb, 0, none⟩)] F (fun v F' => ∃ S, v = .tuple #[S, .bool true] ∧ Mine F F' S 5 1 (pgsN (pgOf s.size (secB s)) (pagesN s.size).toNat).length (bytesOf (pgsN (pgOf s.size (secB s)) (pagesN s.size).toNat))) := by
  have k1 := lgPages hE hD hlg
  have hle := pagesN_le s.size
  obtain ⟨P, hP⟩ : ∃ P : Nat, pagesN s.size = (P : Int) := ⟨(pagesN s.size).toNat, by omega⟩
  have k2 : ∀ (i : Nat) F', Ext F F' → i < P → FnK Tryd.prog 17 #[.pointer (some ⟨lb, 0, none⟩), .int .i64 (i : Int)] F' (fun v F'' => ∃ u, v = .tuple #[u, .int .i64 0] ∧ NewRow F' F'' u (pgOf s.size (secB s) (i : Int)) ∧ Ext F' F'') := fun i F' hF hi => by
    have := lgLoad (hE.trans hF) hD (hF _ _ hlg) (hN.mono hF) (i : Int)
    obtain ⟨e1, e2⟩ := load_c hd (p := (i : Int)) (isPg_iff.2 (by omega))
    rw [e1, e2] at this
    exact this
  have hpl := fun p => pg_len s.size (secB s) p
  have hpn := fun n => pgsN_len (g := pgOf s.size (secB s)) hpl n
  have hps : ∀ n, pgsN (pgOf s.size (secB s)) (n + 1) = pgsN (pgOf s.size (secB s)) n ++ pgOf s.size (secB s) (n : Int) := fun n => rfl
  have hp0 : pgsN (pgOf s.size (secB s)) 0 = [] := rfl
  rw [hP, Int.toNat_natCast]
  rw [hP] at k1 hle
  generalize pgsN (pgOf s.size (secB s)) = pn at hpn hps hp0 ⊢
  generalize pgOf s.size (secB s) = pg at k2 hps hpl
  (refine fn_walk tab_ok Tryd.func28 rfl rfl rfl rfl ?_; (conv => whnf))
  refine call_of k1 ?_
  rintro v F ⟨rfl, rfl⟩
  refine short [0, 4, 9] [.pointer (some ⟨lb, 0, none⟩), .slice none 0 0, .int .i64 (P : Int)] rfl fun ρ => ?_
  ((conv => whnf); repeat (first | (apply load_at; (conv => lhs; whnf); (with_reducible assumption); rfl; (conv => whnf)) | (apply load_at; (conv => lhs; rw [add_plain, add_plain]); (with_reducible assumption); rfl; (conv => whnf)) | (apply loads_at; (conv => lhs; whnf); (with_reducible assumption); rfl; (conv => whnf)) | (refine ⟨⟨by omega, by omega⟩, ?_⟩; (conv => whnf))))
  refine loop_slots [0, 4, 9, 10] (fun k vs F' => ∃ (i : Nat) (S : Value), i + k = P ∧ vs = [.pointer (some ⟨lb, 0, none⟩), S, .int .i64 (P : Int), .int .i64 (i : Int)] ∧ Mine F F' S 5 1 (pn i).length (bytesOf (pn i))) P ⟨0, .slice none 0 0, by omega, rfl, by rw [hp0]; exact Mine.nil _ _ _ _ (Ext.refl _)⟩ ?_
  rintro k vs F2 ρ ⟨i, S, hik, rfl, hM⟩
  ((conv => whnf); repeat (first | (apply load_at; (conv => lhs; whnf); (with_reducible assumption); rfl; (conv => whnf)) | (apply load_at; (conv => lhs; rw [add_plain, add_plain]); (with_reducible assumption); rfl; (conv => whnf)) | (apply loads_at; (conv => lhs; whnf); (with_reducible assumption); rfl; (conv => whnf)) | (refine ⟨⟨by omega, by omega⟩, ?_⟩; (conv => whnf))))
  refine cond_split (fun h => ?_) (fun h => ?_)
  · have hi : i < P := by
      have h : decide ((i : Int) < (P : Int)) = true := h
      have := of_decide_eq_true h
      omega
    ((conv => whnf); repeat (first | (apply load_at; (conv => lhs; whnf); (with_reducible assumption); rfl; (conv => whnf)) | (apply load_at; (conv => lhs; rw [add_plain, add_plain]); (with_reducible assumption); rfl; (conv => whnf)) | (apply loads_at; (conv => lhs; whnf); (with_reducible assumption); rfl; (conv => whnf)) | (refine ⟨⟨by omega, by omega⟩, ?_⟩; (conv => whnf))))
    refine call_of (k2 i F2 hM.ext hi) ?_
    rintro v F3 ⟨u, rfl, ⟨B, bc, rfl, hbc, hbr, hbf⟩, hE3⟩
    have hM3 := hM.mono hE3
    have hl1 := hpn i
    have hl2 := hpl (i : Int)
    have hl3 := hps i
    generalize pg (i : Int) = d at hbr hl2 hl3 hbc
    ((conv => whnf); repeat (first | (apply load_at; (conv => lhs; whnf); (with_reducible assumption); rfl; (conv => whnf)) | (apply load_at; (conv => lhs; rw [add_plain, add_plain]); (with_reducible assumption); rfl; (conv => whnf)) | (apply loads_at; (conv => lhs; whnf); (with_reducible assumption); rfl; (conv => whnf)) | (refine ⟨⟨by omega, by omega⟩, ?_⟩; (conv => whnf))))
    refine append_own tab_ok (s := S) (n := (pn i).length) (xs := bytesOf (pn i)) (m := d.length) (ys := bytesOf d) (y := .slice B d.length bc) rfl rfl rfl rfl rfl ⟨_, rfl, fun k h => by cases h⟩ ⟨_, rfl, rfl⟩ (by decide) hM3.own ⟨by rw [bytes_len]; exact (Nat.mul_one _).symm, .inl ⟨_, _, rfl, hbr⟩⟩ (hone_bytes _) (by show 2 * ((pn i).length + d.length) * 1 ≤ _; omega) fun S2 F4 hO4 hk4 hf4 => ?_
    have hM4 : Mine F F4 S2 5 1 (pn (i + 1)).length (bytesOf (pn (i + 1))) := by
      rw [hl3, bytes_app, List.length_append]
      refine ⟨hO4, fun k hk => ?_, hk4.ext hM3.ext hM3.fresh⟩
      rcases hf4 k hk with h | h
      · exact hM3.fresh k h
      · exact hM3.ext.none h
    ((conv => whnf); repeat (first | (apply load_at; (conv => lhs; whnf); (with_reducible assumption); rfl; (conv => whnf)) | (apply load_at; (conv => lhs; rw [add_plain, add_plain]); (with_reducible assumption); rfl; (conv => whnf)) | (apply loads_at; (conv => lhs; whnf); (with_reducible assumption); rfl; (conv => whnf)) | (refine ⟨⟨by omega, by omega⟩, ?_⟩; (conv => whnf))))
    refine ⟨k - 1, by omega, i + 1, S2, by omega, ?_, hM4⟩
    rw [← wrap_succ (j := i) (by omega)]
    rfl
  · have hi : i = P := by
      have := of_decide_eq_false h
      omega
    subst hi
    ((conv => whnf); repeat (first | (apply load_at; (conv => lhs; whnf); (with_reducible assumption); rfl; (conv => whnf)) | (apply load_at; (conv => lhs; rw [add_plain, add_plain]); (with_reducible assumption); rfl; (conv => whnf)) | (apply loads_at; (conv => lhs; whnf); (with_reducible assumption); rfl; (conv => whnf)) | (refine ⟨⟨by omega, by omega⟩, ?_⟩; (conv => whnf))))
    exact ⟨S, rfl, hM⟩
end Go.Proofs.YtmpiggcooboenaaDoor.Al
/- The laws' awake. -/
namespace Go.Proofs.YtmpiggcooboenaaDoor.Al
open Go Go.Al Go.Proofs Go.RowKit
set_option maxHeartbeats 8000000
set_option maxRecDepth 100000
set_option linter.unusedVariables false
set_option linter.unusedSimpArgs false
theorem lgv_take {D F D' F' : Heap} {b lb : Nat} {s : DS} {q : Int} (hM : Moves D F D' F') (hD : Dk D' b s) (h1 : D lb = none → F lb = none) (h2 : D' lb = none) (h3 : F' lb = some (lgO b q)) (hq : 0 ≤ q ∧ q ≤ 4611686018427387904) :
    Moves D F (D'.put lb (lgO b q)) F' ∧ Lg (D'.put lb (lgO b q)) lb b s q := by
  refine ⟨⟨fun c u hc => ?_, hM.out, fun c hc => ?_⟩, D', hD, h2, rfl, hq⟩
  · by_cases e : c = lb
    · subst e; rw [Heap.put_same] at hc; rw [h3]; exact hc
    · rw [Heap.put_other _ _ e] at hc; exact hM.inn c u hc
  · by_cases e : c = lb
    · subst e
      cases e2 : D c with
      | none => exact .inr (h1 e2)
      | some o => exact .inl (by simp)
    · rw [Heap.put_other _ _ e] at hc; exact hM.new c hc
theorem Lg.ext {E : Heap} {lb b : Nat} {s : DS} {q : Int} {F : Heap} (h : Lg E lb b s q) (hE : Ext E F) : ∃ D, Dk D b s ∧ Ext D F ∧ F lb = some (lgO b q) := by
  obtain ⟨D, h1, h2, h3⟩ := h.disk
  exact ⟨D, h1, h2.trans hE, hE _ _ h3⟩
/-- A log just opened on a new disk, by calls that have been told. -/
theorem lgOf {E F : Heap} {lb b : Nat} {s : DS} {q : Int} (h : Lg E lb b s q) (hE : Ext E F) (hN : NibAt F) (p : Int) (hd : s.down = false) (hp : isPg s.size p = true) :
    FnK Tryd.prog 17 #[.pointer (some ⟨lb, 0, none⟩), .int .i64 p] F (fun v F' => ∃ u, v = .tuple #[u, .int .i64 0] ∧ NewRow F F' u (pgOf s.size (secB s) p) ∧ Ext F F') := by
  obtain ⟨D, h1, h2, h3⟩ := h.ext hE
  obtain ⟨e1, e2⟩ := load_c hd hp
  have := lgLoad h2 h1 h3 hN p
  rw [e1, e2] at this
  exact this
/-- A side part of memory takes what is new. -/
theorem side_gain {E R F F' : Heap} (hE : Ext E F) (hR : Ext R F) (hA : Apart E R) (hX : Ext F F') : Ext (gain R F F') F' ∧ Apart E (gain R F F') ∧ Ext R (gain R F F') := by
  refine ⟨fun c o hc => ?_, fun c hc => ?_, gain_ext hR⟩
  · cases e : F c with
    | none => rw [gain_new e] at hc; exact hc
    | some u => rw [gain_old e] at hc; exact hX _ _ (hR _ _ hc)
  · cases e : E c with
    | none => exact absurd e hc
    | some o => rw [gain_old (hE _ _ e)]; exact hA c hc
/-- .. as one word. -/
theorem commit_to {s : DS} {q : Int} {ps : List (Int × List UInt8)} (hI : Ims s.size (q + 1) ps) (h0 : ps ≠ []) (hu : Up s) (hd : DWf s) (hw : s.writes + 100000 < 1000000000) :
    ∃ s', commitS dsO s q ps = (s', 0, q + 1) ∧ Up s' ∧ DWf s' ∧ Calm s' ∧ s'.size = s.size ∧ Done s.size (q + 1) ps (secB s) (secB s') ∧ s'.writes = s.writes + 2 * ps.length + 1 := by
  obtain ⟨h1, h2, h3, h4, h5, h6, h7⟩ := commit_up hI h0 hu hd hw
  refine ⟨(commitS dsO s q ps).1, ?_, h2, h3, h4, h5, h6, h7⟩
  rw [← h1]
def awkI : List (Int × List UInt8) := [(2, List.replicate 240 7), (0, List.replicate 240 8)]
theorem awk_ims : Ims 9 2 awkI := by
  refine ⟨fun p hp => ?_, by decide, by decide, by decide⟩
  unfold awkI at hp
  rcases List.mem_cons.1 hp with rfl | hp
  · exact ⟨by decide, List.length_replicate⟩
  · rw [List.mem_singleton] at hp
    subst hp
    exact ⟨by decide, List.length_replicate⟩
theorem awake6 (F : Heap) (hN : NibAt F) : FnK Tryd.prog 23 #[] F (fun v F' => v = .bool true ∧ Ext F F') := by
  obtain ⟨f1, f2⟩ := fmt_fresh (n := 9) (by decide)
  obtain ⟨o1, o2⟩ := frs_fresh (n := 9) (by decide)
  have k1 := new 9 F
  have k2 := fun D F b hE hD hN => redoFormat (D := D) (F := F) (b := b) (s := newS 9) hE hD hN (by show (0 : Int) + 1 < _; omega)
  rw [f1] at k2
  replace k2 : ∀ D F b, Ext D F → Dk D b (newS 9) → NibAt F → FnK Tryd.prog 22 #[.pointer (some ⟨b, 0, none⟩)] F (fun v F' => v = .int .i64 0 ∧ ∃ D', Moves D F D' F' ∧ Dk D' b (fmtS 9)) := k2
  have k3 := fun D F b hE hD hN => redoOpen (D := D) (F := F) (b := b) (s := fmtS 9) hE hD hN (by rw [f2.writes]; omega)
  rw [o1] at k3
  replace k3 : ∀ D F b, Ext D F → Dk D b (fmtS 9) → NibAt F → FnK Tryd.prog 18 #[.pointer (some ⟨b, 0, none⟩)] F (fun v F' => ∃ w D', v = .tuple #[w, .int .i64 0] ∧ Moves D F D' F' ∧ Dk D' b (frsS 9) ∧ LgV D F D' F' b w (some 1)) := k3
  generalize fmtS 9 = s1 at k2 k3
  generalize frsS 9 = s2 at k3 o2
  have hI : Ims s2.size (1 + 1) awkI := by rw [o2.size]; exact awk_ims
  obtain ⟨s4, c1, c2, c3, c4, c5, c6, c7⟩ := commit_to (s := s2) (q := 1) hI (by unfold awkI; simp) o2.up o2.wf (by rw [o2.writes]; omega)
  have k4 := fun E F R b lb hE hL hR hA hN ims A c hr hp hw hl => lgCommit (E := E) (F := F) (R := R) (b := b) (lb := lb) (s := s2) (q := 1) hE hL hR hA hN ims A c hr hp hw hl
  have hlenI : awkI.length = 2 := rfl
  have c7' : s4.writes = 6 := by rw [c7, o2.writes, hlenI]; rfl
  have p1 : pgOf s4.size (secB s4) 2 = List.replicate 240 7 := by
    rw [c5]
    exact pg_pack hI (x := (2, List.replicate 240 7)) List.mem_cons_self (c6.yes _ List.mem_cons_self)
  have hsz9 : s4.size = 9 := c5.trans o2.size
  (refine fn_walk tab_ok Tryd.func23 rfl rfl rfl rfl ?_; (conv => whnf))
  refine call_of k1 ?_
  rintro v F1 h
  rcases h with ⟨h, _⟩ | ⟨_, _, b, D1, rfl, hM1, hD1⟩
  · omega
  have hF1 := hM1.keep (Ext.refl F) (Apart.none F)
  have hA1 := hM1.apart (Ext.refl F) (Apart.none F)
  ((conv => whnf); repeat (first | (apply load_at; (conv => lhs; whnf); (with_reducible assumption); rfl; (conv => whnf)) | (apply load_at; (conv => lhs; rw [add_plain, add_plain]); (with_reducible assumption); rfl; (conv => whnf)) | (apply loads_at; (conv => lhs; whnf); (with_reducible assumption); rfl; (conv => whnf)) | (refine ⟨⟨by omega, by omega⟩, ?_⟩; (conv => whnf))))
  refine call_of (k2 D1 F1 b hM1.inn hD1 (hN.mono hF1)) ?_
  rintro v F2 ⟨rfl, D2, hM2, hD2⟩
  have hF2 := hM2.keep hF1 hA1
  have hA2 := hM2.apart hF1 hA1
  refine short [1, 17, 19] [.pointer (some ⟨b, 0, none⟩), .bool false, .int .i64 0] rfl fun ρ => ?_
  ((conv => whnf); repeat (first | (apply load_at; (conv => lhs; whnf); (with_reducible assumption); rfl; (conv => whnf)) | (apply load_at; (conv => lhs; rw [add_plain, add_plain]); (with_reducible assumption); rfl; (conv => whnf)) | (apply loads_at; (conv => lhs; whnf); (with_reducible assumption); rfl; (conv => whnf)) | (refine ⟨⟨by omega, by omega⟩, ?_⟩; (conv => whnf))))
  refine call_of (k3 D2 F2 b hM2.inn hD2 (hN.mono hF2)) ?_
  rintro v F3 ⟨w, D3, rfl, hM3, hD3, lb, rfl, g1, g2, g3⟩
  obtain ⟨hM3', hL3⟩ := lgv_take hM3 hD3 g1 g2 g3 (by decide)
  have hF3 := hM3'.keep hF2 hA2
  have hA3 := hM3'.apart hF2 hA2
  have hE3 := hM3'.inn
  generalize D3.put lb (lgO b 1) = E3 at hM3' hL3 hF3 hA3 hE3
  refine short [1, 24] [.pointer (some ⟨b, 0, none⟩), .tuple #[.pointer (some ⟨lb, 0, none⟩), .int .i64 0]] rfl fun ρ => ?_
  ((conv => whnf); repeat (first | (apply load_at; (conv => lhs; whnf); (with_reducible assumption); rfl; (conv => whnf)) | (apply load_at; (conv => lhs; rw [add_plain, add_plain]); (with_reducible assumption); rfl; (conv => whnf)) | (apply loads_at; (conv => lhs; whnf); (with_reducible assumption); rfl; (conv => whnf)) | (refine ⟨⟨by omega, by omega⟩, ?_⟩; (conv => whnf))))
  refine call_of (page6 7 F3) ?_
  rintro v F4 ⟨⟨B, bc, rfl, hbc, hbr, hbf⟩, hX4⟩
  refine short [1, 3, 33, 34, 35] [.pointer (some ⟨b, 0, none⟩), .pointer (some ⟨lb, 0, none⟩), .bool false, .pointer (some ⟨lb, 0, none⟩), .slice B 240 bc] rfl fun ρ => ?_
  ((conv => whnf); repeat (first | (apply load_at; (conv => lhs; whnf); (with_reducible assumption); rfl; (conv => whnf)) | (apply load_at; (conv => lhs; rw [add_plain, add_plain]); (with_reducible assumption); rfl; (conv => whnf)) | (apply loads_at; (conv => lhs; whnf); (with_reducible assumption); rfl; (conv => whnf)) | (refine ⟨⟨by omega, by omega⟩, ?_⟩; (conv => whnf))))
  refine call_of (page6 8 F4) ?_
  rintro v F5 ⟨⟨C, cc, rfl, hcc, hcr, hcf⟩, hX5⟩
  ((conv => whnf); repeat (first | (apply load_at; (conv => lhs; whnf); (with_reducible assumption); rfl; (conv => whnf)) | (apply load_at; (conv => lhs; rw [add_plain, add_plain]); (with_reducible assumption); rfl; (conv => whnf)) | (apply loads_at; (conv => lhs; whnf); (with_reducible assumption); rfl; (conv => whnf)) | (refine ⟨⟨by omega, by omega⟩, ?_⟩; (conv => whnf))))
  refine new_step (.cells (rowS pcC [⟨2, List.replicate 240 7, B, bc⟩, ⟨0, List.replicate 240 8, C, cc⟩]).toArray 67) rfl fun g h0_g => ?_
  have hE_g := Ext.new h0_g (.cells (rowS pcC [⟨2, List.replicate 240 7, B, bc⟩, ⟨0, List.replicate 240 8, C, cc⟩]).toArray 67)
  have hB_g := Heap.put_same F5 g (.cells (rowS pcC [⟨2, List.replicate 240 7, B, bc⟩, ⟨0, List.replicate 240 8, C, cc⟩]).toArray 67)
  generalize F5.put g _ = F6 at hE_g hB_g ⊢
  have hX36 := hX4.trans (hX5.trans hE_g)
  obtain ⟨r1, r2, r3⟩ := side_gain hE3 hF3 hA3 hX36
  have rB : RowAt (gain F F3 F6) B (bytesOf (List.replicate 240 7)) := rowAt_gain (hbr.mono (hX5.trans hE_g)) hbf
  have rC : RowAt (gain F F3 F6) C (bytesOf (List.replicate 240 8)) := rowAt_gain (hcr.mono hE_g) fun a ha => hX4.none (hcf a ha)
  have rG : RowAt (gain F F3 F6) (some ⟨g, 0, none⟩) (rowS pcC [⟨2, List.replicate 240 7, B, bc⟩, ⟨0, List.replicate 240 8, C, cc⟩]) := by
    have := row_blk hB_g
    rw [List.toList_toArray] at this
    refine rowAt_gain this fun a ha => ?_
    injection ha with ha
    subst ha
    exact (hX4.trans hX5).none h0_g
  have kC := k4 E3 F6 (gain F F3 F6) b lb (hE3.trans hX36) hL3 r1 r2 (hN.mono r3) [⟨2, List.replicate 240 7, B, bc⟩, ⟨0, List.replicate 240 8, C, cc⟩] (some ⟨g, 0, none⟩) 2 rG (fun p hp => by
    rcases List.mem_cons.1 hp with rfl | hp
    · exact ⟨rB, by show (List.replicate 240 _).length ≤ _; rw [List.length_replicate]; omega⟩
    · rw [List.mem_singleton] at hp
      subst hp
      exact ⟨rC, by show (List.replicate 240 _).length ≤ _; rw [List.length_replicate]; omega⟩) (by rw [o2.writes]; omega) (Nat.le_of_ble_eq_true rfl)
  replace kC : FnK Tryd.prog 19 #[.pointer (some ⟨lb, 0, none⟩), .slice (some ⟨g, 0, none⟩) 2 2] F6 (fun v F' => v = .int .i64 (commitS dsO s2 1 awkI).2.1 ∧ ∃ E', Moves E3 F6 E' F' ∧ Lg E' lb b (commitS dsO s2 1 awkI).1 (commitS dsO s2 1 awkI).2.2) := kC
  rw [c1] at kC
  replace kC : FnK Tryd.prog 19 #[.pointer (some ⟨lb, 0, none⟩), .slice (some ⟨g, 0, none⟩) 2 2] F6 (fun v F' => v = .int .i64 0 ∧ ∃ E', Moves E3 F6 E' F' ∧ Lg E' lb b s4 (1 + 1)) := kC
  ((conv => whnf); repeat (first | (apply load_at; (conv => lhs; whnf); (with_reducible assumption); rfl; (conv => whnf)) | (apply load_at; (conv => lhs; rw [add_plain, add_plain]); (with_reducible assumption); rfl; (conv => whnf)) | (apply loads_at; (conv => lhs; whnf); (with_reducible assumption); rfl; (conv => whnf)) | (refine ⟨⟨by omega, by omega⟩, ?_⟩; (conv => whnf))))
  refine call_of kC ?_
  rintro v F7 ⟨rfl, E7, hM7, hL7⟩
  have hF7 := hM7.keep r1 r2
  have hFF7 := r3.trans hF7
  refine short [1, 3, 33, 40] [.pointer (some ⟨b, 0, none⟩), .pointer (some ⟨lb, 0, none⟩), .bool false, .int .i64 0] rfl fun ρ => ?_
  ((conv => whnf); repeat (first | (apply load_at; (conv => lhs; whnf); (with_reducible assumption); rfl; (conv => whnf)) | (apply load_at; (conv => lhs; rw [add_plain, add_plain]); (with_reducible assumption); rfl; (conv => whnf)) | (apply loads_at; (conv => lhs; whnf); (with_reducible assumption); rfl; (conv => whnf)) | (refine ⟨⟨by omega, by omega⟩, ?_⟩; (conv => whnf))))
  have kL := lgOf hL7 hM7.inn (hN.mono hFF7) 2 c2.down (by rw [hsz9]; decide)
  rw [p1] at kL
  refine call_of kL ?_
  rintro v F8 ⟨u, rfl, ⟨U, uc, rfl, huc, hur, huf⟩, hX8⟩
  have hE8 := hM7.inn.trans hX8
  have hFF8 := hFF7.trans hX8
  obtain ⟨D8, q1, q2, q3⟩ := hL7.ext hE8
  obtain ⟨ua, rfl⟩ := hur.some (by rw [bytes_len, List.length_replicate]; decide)
  have hcell := byte_cell hur (j := 0) (by rw [List.length_replicate]; decide)
  rw [List.getElem_replicate] at hcell
  have kP := lgPages q2 q1 q3
  rw [hsz9, show pagesN 9 = 4 by decide] at kP
  have kS := lgSeq q3
  have kW := dk_writes q2 q1
  rw [c7'] at kW
  refine short [1, 3, 45] [.pointer (some ⟨b, 0, none⟩), .pointer (some ⟨lb, 0, none⟩), .tuple #[.slice (some ua) 240 uc, .int .i64 0]] rfl fun ρ => ?_
  ((conv => whnf); repeat (first | (apply load_at; (conv => lhs; whnf); (with_reducible assumption); rfl; (conv => whnf)) | (apply load_at; (conv => lhs; rw [add_plain, add_plain]); (with_reducible assumption); rfl; (conv => whnf)) | (apply loads_at; (conv => lhs; whnf); (with_reducible assumption); rfl; (conv => whnf)) | (refine ⟨⟨by omega, by omega⟩, ?_⟩; (conv => whnf))))
  refine load_step hcell ?_
  ((conv => whnf); repeat (first | (apply load_at; (conv => lhs; whnf); (with_reducible assumption); rfl; (conv => whnf)) | (apply load_at; (conv => lhs; rw [add_plain, add_plain]); (with_reducible assumption); rfl; (conv => whnf)) | (apply loads_at; (conv => lhs; whnf); (with_reducible assumption); rfl; (conv => whnf)) | (refine ⟨⟨by omega, by omega⟩, ?_⟩; (conv => whnf))))
  refine call_of kP ?_
  rintro v F9 ⟨rfl, rfl⟩
  refine short [1, 3, 61, 63] [.pointer (some ⟨b, 0, none⟩), .pointer (some ⟨lb, 0, none⟩), .bool true, .int .i64 4] rfl fun ρ => ?_
  ((conv => whnf); repeat (first | (apply load_at; (conv => lhs; whnf); (with_reducible assumption); rfl; (conv => whnf)) | (apply load_at; (conv => lhs; rw [add_plain, add_plain]); (with_reducible assumption); rfl; (conv => whnf)) | (apply loads_at; (conv => lhs; whnf); (with_reducible assumption); rfl; (conv => whnf)) | (refine ⟨⟨by omega, by omega⟩, ?_⟩; (conv => whnf))))
  refine call_of kS ?_
  rintro v F9 ⟨rfl, rfl⟩
  refine short [1, 66, 68] [.pointer (some ⟨b, 0, none⟩), .bool true, .int .i64 2] rfl fun ρ => ?_
  ((conv => whnf); repeat (first | (apply load_at; (conv => lhs; whnf); (with_reducible assumption); rfl; (conv => whnf)) | (apply load_at; (conv => lhs; rw [add_plain, add_plain]); (with_reducible assumption); rfl; (conv => whnf)) | (apply loads_at; (conv => lhs; whnf); (with_reducible assumption); rfl; (conv => whnf)) | (refine ⟨⟨by omega, by omega⟩, ?_⟩; (conv => whnf))))
  refine call_of kW ?_
  rintro v F9 ⟨rfl, rfl⟩
  refine short [71, 73] [.bool true, .int .i64 6] rfl fun ρ => ?_
  ((conv => whnf); repeat (first | (apply load_at; (conv => lhs; whnf); (with_reducible assumption); rfl; (conv => whnf)) | (apply load_at; (conv => lhs; rw [add_plain, add_plain]); (with_reducible assumption); rfl; (conv => whnf)) | (apply loads_at; (conv => lhs; whnf); (with_reducible assumption); rfl; (conv => whnf)) | (refine ⟨⟨by omega, by omega⟩, ?_⟩; (conv => whnf))))
  exact ⟨rfl, hFF8⟩
end Go.Proofs.YtmpiggcooboenaaDoor.Al
/- Logs on new disks: the first calls, as one word each. -/
namespace Go.Proofs.YtmpiggcooboenaaDoor.Al
open Go Go.Al Go.Proofs Go.RowKit
set_option maxHeartbeats 8000000
set_option maxRecDepth 100000
set_option linter.unusedVariables false
set_option linter.unusedSimpArgs false
theorem new_n {n : Int} (hn : 3 ≤ n ∧ n ≤ 65536) (F : Heap) : FnK Tryd.prog 24 #[.int .i64 n] F (fun v F' => ∃ b D', v = .tuple #[.pointer (some ⟨b, 0, none⟩), .int .i64 0] ∧ Moves emptyH F D' F' ∧ Dk D' b (newS n)) := by
  refine (new n F).mono ?_
  rintro v F' (⟨h, _⟩ | ⟨_, _, b, D, h1, h2, h3⟩)
  · omega
  · exact ⟨b, D, h1, h2, h3⟩
theorem fmt_n {n : Int} (hn : 3 ≤ n ∧ n ≤ 65536) {D F : Heap} {b : Nat} (hE : Ext D F) (hD : Dk D b (newS n)) (hN : NibAt F) : FnK Tryd.prog 22 #[.pointer (some ⟨b, 0, none⟩)] F (fun v F' => v = .int .i64 0 ∧ ∃ D' s, Moves D F D' F' ∧ Dk D' b s ∧ Fresh n s) := by
  obtain ⟨f1, f2⟩ := fmt_fresh hn
  refine (redoFormat hE hD hN (by show (0 : Int) + 1 < _; omega)).mono ?_
  rintro v F' ⟨rfl, D', h1, h2⟩
  exact ⟨by rw [f1], D', _, h1, h2, f2⟩
/-- Opening on a disk that is up. -/
theorem open_n {D F : Heap} {b : Nat} {s : DS} {cnt q : Int} {X : (Int → List UInt8) → Prop} (hE : Ext D F) (hD : Dk D b s) (hN : NibAt F) (hX : Cls s.size cnt q X) (hu : Up s) (hc : Calm s) (hw : s.writes + 40000 < 1000000000) (hx : X (secB s)) :
    FnK Tryd.prog 18 #[.pointer (some ⟨b, 0, none⟩)] F (fun v F' => ∃ lb E' s', v = .tuple #[.pointer (some ⟨lb, 0, none⟩), .int .i64 0] ∧ Moves D F E' F' ∧ Lg E' lb b s' q ∧ Up s' ∧ DWf s' ∧ Calm s' ∧ s'.size = s.size ∧ X (secB s') ∧ s'.writes ≤ s.writes + 32768 ∧ (∀ ws, wholeO (cO s.size) (secB s) cnt q = some ws → secB s' = putAll (secB s) ws ∧ s'.writes = s.writes + ws.length)) := by
  obtain ⟨o1, o2, o3, o4, o5, o6, o7, o8⟩ := open_up hX hu hD.1 hc (by omega) hx
  have hq := hX.rd _ hx
  have hrg := rdN_range (cO s.size) (secB s)
  rw [hq] at hrg
  refine (redoOpen hE hD hN hw).mono ?_
  rw [o1]
  rintro v F' ⟨w, D', rfl, hM, hD', lb, rfl, g1, g2, g3⟩
  obtain ⟨h1, h2⟩ := lgv_take hM hD' g1 g2 g3 hrg.2
  exact ⟨lb, _, _, rfl, h1, h2, o2, o3, o4, o5, o6, o7, o8⟩
theorem open_f {n : Int} (hn : 3 ≤ n ∧ n ≤ 65536) {D F : Heap} {b : Nat} {s : DS} (hE : Ext D F) (hD : Dk D b s) (hN : NibAt F) (hf : Fresh n s) :
    FnK Tryd.prog 18 #[.pointer (some ⟨b, 0, none⟩)] F (fun v F' => ∃ lb E' s', v = .tuple #[.pointer (some ⟨lb, 0, none⟩), .int .i64 0] ∧ Moves D F E' F' ∧ Lg E' lb b s' 1 ∧ Fresh n s') := by
  obtain ⟨u, w, c, sz, wr, d, z⟩ := hf
  subst sz
  have hI : Ims s.size 1 [] := ims_nil (by decide)
  refine (open_n hE hD hN (cls_done (c0 := secB s) hn.1 hI) u c (by omega) d).mono ?_
  rintro v F' ⟨lb, E', s', rfl, h1, h2, h3, h4, h5, h6, h7, h8, h9⟩
  obtain ⟨e1, e2⟩ := h9 [] (slots_whole hI d.slots)
  have e : secB s' = secB s := e1
  refine ⟨lb, E', s', rfl, h1, h2, h3, h4, h5, h6, by rw [e2, wr]; rfl, ?_, fun k hk => by rw [e]; exact z k hk⟩
  rw [e]
  exact d
/-- Committing on a disk that is up. -/
theorem commit_n {E F R : Heap} {b lb : Nat} {s : DS} {q : Int} (hE : Ext E F) (hL : Lg E lb b s q) (hR : Ext R F) (hA : Apart E R) (hN : NibAt R) (ims : List PcR) (A : Option Addr) (c : Nat) (hr : RowAt R A (rowS pcC ims)) (hp : ∀ p ∈ ims, PcOk R p) (hw : s.writes + 200000 < 1000000000)
    (hI : Ims s.size (q + 1) (ims.map pcW)) (h0 : ims ≠ []) (hu : Up s) :
    FnK Tryd.prog 19 #[.pointer (some ⟨lb, 0, none⟩), .slice A ims.length c] F (fun v F' => v = .int .i64 0 ∧ ∃ E' s', Moves E F E' F' ∧ Lg E' lb b s' (q + 1) ∧ Up s' ∧ DWf s' ∧ Calm s' ∧ s'.size = s.size ∧ Done s.size (q + 1) (ims.map pcW) (secB s) (secB s') ∧ s'.writes = s.writes + 2 * ims.length + 1) := by
  have hwf : DWf s := by obtain ⟨D, hD, _⟩ := hL; exact hD.1
  have hle := pagesN_le s.size
  have hl := hI.len
  rw [List.length_map] at hl
  obtain ⟨s', c1, c2, c3, c4, c5, c6, c7⟩ := commit_to hI (by intro e; exact h0 (List.map_eq_nil_iff.1 e)) hu hwf (by omega)
  rw [List.length_map] at c7
  refine (lgCommit hE hL hR hA hN ims A c hr hp hw (by omega)).mono ?_
  rw [c1]
  rintro v F' ⟨rfl, E', h1, h2⟩
  exact ⟨rfl, E', s', h1, h2, c2, c3, c4, c5, c6, c7⟩
theorem commit_0 {E F R : Heap} {b lb : Nat} {s : DS} {q : Int} (hE : Ext E F) (hL : Lg E lb b s q) (hR : Ext R F) (hA : Apart E R) (hN : NibAt R) (A : Option Addr) (c : Nat) (hw : s.writes + 200000 < 1000000000) :
    FnK Tryd.prog 19 #[.pointer (some ⟨lb, 0, none⟩), .slice A 0 c] F (fun v F' => v = .int .i64 0 ∧ ∃ E', Moves E F E' F' ∧ Lg E' lb b s q) := by
  refine (lgCommit hE hL hR hA hN [] A c (RowAt.nil _ _) (fun p h => by cases h) hw (Nat.zero_le _)).mono ?_
  rw [show commitS dsO s q (List.map pcW []) = (s, 0, q) from commit_none s q]
  rintro v F' ⟨rfl, E', h1, h2⟩
  exact ⟨rfl, E', h1, h2⟩
end Go.Proofs.YtmpiggcooboenaaDoor.Al
/- Logs: a commit that may be cut short, opened again: both ways that it may go. -/
namespace Go.Proofs.YtmpiggcooboenaaDoor.Al
open Go Go.Al Go.Proofs Go.RowKit
set_option maxHeartbeats 8000000
set_option maxRecDepth 100000
set_option linter.unusedVariables false
set_option linter.unusedSimpArgs false
/-- What opening makes of a disk, and what its pages are then. -/
structure Way (n cnt q : Int) (X Y : (Int → List UInt8) → Prop) (pg : Int → List UInt8) : Prop where
  x : Cls n cnt q X
  y : Cls n cnt q Y
  go : ∀ c c', X c → X c' → (∀ ws, wholeO (cO n) c cnt q = some ws → c' = putAll c ws) → Y c'
  at_ : ∀ c, Y c → ∀ p, isPg n p = true → pgOf n c p = pg p
theorem way_old {n cnt q : Int} {c0 : Int → List UInt8} (hn : 3 ≤ n) (hB : Base n cnt q c0) : Way n cnt q (Old n q c0) (Old n q c0) (pgOf n c0) :=
  ⟨cls_old hn hB, cls_old hn hB, fun _ _ _ h _ => h, fun _ h _ hp => pg_old h hp⟩
theorem way_new {n q : Int} {ps : List (Int × List UInt8)} {c0 : Int → List UInt8} (hn : 3 ≤ n) (hI : Ims n q ps) : Way n (ps.length : Int) q (New n q ps c0) (Done n q ps c0) (putAll (pgOf n c0) ps) :=
  ⟨cls_new hn hI, cls_done hn hI, fun c c' h _ e => by rw [e _ (slots_whole hI h.slots)]; exact done_of_new hI h, fun _ h _ hp => pg_done hI h hp⟩
theorem pgsN_congr {g g' : Int → List UInt8} : ∀ n : Nat, (∀ p : Nat, p < n → g (p : Int) = g' (p : Int)) → pgsN g n = pgsN g' n
  | 0, _ => rfl
  | n + 1, h => by
    show pgsN g n ++ g (n : Int) = pgsN g' n ++ g' (n : Int)
    rw [pgsN_congr n fun p hp => h p (by omega), h n (by omega)]
theorem pgs_put {g : Int → List UInt8} (hg : ∀ p, (g p).length = 240) {d : List UInt8} (hd : d.length = 240) : ∀ (n p : Nat), p < n → pgsN (fun k => if k = (p : Int) then d else g k) n = (pgsN g n).take (p * 240) ++ (d ++ (pgsN g n).drop (p * 240 + 240))
  | n + 1, p, h => by
    have hl := pgsN_len hg n
    show pgsN (fun k => if k = (p : Int) then d else g k) n ++ (if (n : Int) = (p : Int) then d else g (n : Int)) = (pgsN g n ++ g (n : Int)).take (p * 240) ++ (d ++ (pgsN g n ++ g (n : Int)).drop (p * 240 + 240))
    by_cases e : n = p
    · subst e
      rw [if_pos rfl, pgsN_congr n (g' := g) fun k hk => if_neg (by omega), ← hl, List.take_left' rfl, List.drop_of_length_le (by rw [List.length_append, hg]; omega), List.append_nil]
    · rw [if_neg (by omega), pgs_put hg hd n p (by omega), List.take_append_of_le_length (by omega), List.drop_append_of_le_length (by omega), List.append_assoc, List.append_assoc]
theorem putL_cut {cs ys : List Value} {off n : Nat} (h : off + ys.length ≤ n) (hn : n ≤ cs.length) : (putL cs off ys).take n = (cs.take n).take off ++ (ys ++ (cs.take n).drop (off + ys.length)) := by
  have e1 : (cs.take off).take n = cs.take off := List.take_of_length_le (by rw [List.length_take]; omega)
  have e2 : (ys ++ cs.drop (off + ys.length)).take (n - off) = ys ++ (cs.drop (off + ys.length)).take (n - off - ys.length) := by
    rw [List.take_append, List.take_of_length_le (show ys.length ≤ n - off by omega)]
  rw [putL_eq ys cs off (by omega), List.take_append, List.length_take, Nat.min_eq_left (show off ≤ cs.length by omega), e1, e2, List.take_take, Nat.min_eq_left (show off ≤ n by omega), List.drop_take, show n - (off + ys.length) = n - off - ys.length by omega]
/-- What is done to a log's disk, done to the log. -/
theorem lg_disk {E F : Heap} {lb b : Nat} {s : DS} {q : Int} (hE : Ext E F) (hL : Lg E lb b s q) : ∃ D, Ext D F ∧ Dk D b s ∧ Ext D E ∧ ∀ {D' F' : Heap} {s' : DS}, Moves D F D' F' → Dk D' b s' → ∃ E', Moves E F E' F' ∧ Lg E' lb b s' q := by
  obtain ⟨D, hD, hdl, rfl, h1, h2⟩ := hL
  have hDE : Ext D (D.put lb (lgO b q)) := (Ext.refl D).put hdl _
  refine ⟨D, hDE.trans hE, hD, hDE, fun {D' F' s'} hM hD' => ?_⟩
  obtain ⟨m1, m2⟩ := moves_withB hM hdl (hE _ _ (Heap.put_same _ _ _))
  exact ⟨_, m1, D', hD', m2, rfl, h1, h2⟩
/-- The first commit of the law. -/
theorem first_n {E F R : Heap} {b lb : Nat} {s : DS} (hE : Ext E F) (hL : Lg E lb b s 1) (hR : Ext R F) (hA : Apart E R) (hN : NibAt R) (ims : List PcR) (A : Option Addr) (c : Nat) (hr : RowAt R A (rowS pcC ims)) (hp : ∀ p ∈ ims, PcOk R p) (hf : Fresh 27 s) (hI : Ims 27 2 (ims.map pcW)) :
    FnK Tryd.prog 19 #[.pointer (some ⟨lb, 0, none⟩), .slice A ims.length c] F (fun v F' => v = .int .i64 0 ∧ ∃ E' s' q cnt, Moves E F E' F' ∧ Lg E' lb b s' q ∧ Up s' ∧ DWf s' ∧ Calm s' ∧ s'.size = 27 ∧ Base 27 cnt q (secB s') ∧ (0 ≤ q ∧ q ≤ 2) ∧ s'.writes ≤ 100) := by
  have hl := hI.len
  rw [pages27, List.length_map] at hl
  by_cases h0 : ims = []
  · subst h0
    refine (commit_0 hE hL hR hA hN A c (by rw [hf.writes]; omega)).mono ?_
    rintro v F' ⟨rfl, E', h1, h2⟩
    exact ⟨rfl, E', s, 1, _, h1, h2, hf.up, hf.wf, hf.calm, hf.size, base_done (c0 := secB s) (by decide) (ims_nil (by decide)) hf.done, by decide, by rw [hf.writes]; decide⟩
  · refine (commit_n hE hL hR hA hN ims A c hr hp (by rw [hf.writes]; omega) (by rw [hf.size]; exact hI) h0 hf.up).mono ?_
    rintro v F' ⟨rfl, E', s', h1, h2, h3, h4, h5, h6, h7, h8⟩
    rw [hf.size] at h7 h6
    exact ⟨rfl, E', s', 2, _, h1, h2, h3, h4, h5, h6, base_done (by decide) hI h7, by decide, by rw [h8, hf.writes]; omega⟩
/-- The second one, and a crash. -/
theorem second_way {s : DS} {cnt q : Int} {ps : List (Int × List UInt8)} (hsz : s.size = 27) (hB : Base 27 cnt q (secB s)) (hd : s.down = false) (hwf : DWf s) (hc : Calm s) (hI : Ims 27 (q + 1) ps) (hw : s.writes ≤ 1000) (keep : List Int) :
    ∃ cnt' q' X Y pg, Up (crashS (commitS dsO s q ps).1 keep) ∧ DWf (crashS (commitS dsO s q ps).1 keep) ∧ Calm (crashS (commitS dsO s q ps).1 keep) ∧ (crashS (commitS dsO s q ps).1 keep).size = 27 ∧ (crashS (commitS dsO s q ps).1 keep).writes ≤ 200000 ∧ Way 27 cnt' q' X Y pg ∧ X (secB (crashS (commitS dsO s q ps).1 keep)) ∧ ((pgsN pg 13 = pgsN (putAll (pgOf 27 (secB s)) ps) 13) ∨ (pgsN pg 13 = pgsN (pgOf 27 (secB s)) 13 ∧ (commitS dsO s q ps).2.1 ≠ 0)) := by
  by_cases h0 : ps = []
  · subst h0
    rw [commit_none]
    obtain ⟨m1, m2, m3, m4, m5, m6⟩ := calm_crash hwf hc keep
    refine ⟨cnt, q, _, _, _, m3, m1, m2, m4.trans hsz, by rw [m5]; omega, way_old (by decide) hB, ?_, .inl rfl⟩
    rw [show secB (crashS s keep) = secB s from funext m6]
    exact ⟨rfl, fun _ _ => rfl, fun _ _ => .inl rfl⟩
  · have hI' : Ims s.size (q + 1) ps := by rw [hsz]; exact hI
    obtain ⟨m1, m2, m3, m4, m5, m6⟩ := commit_mid hI' h0 hd hwf hc (by omega) keep
    rw [hsz] at m6
    rcases m6 with ⟨e, m6⟩ | m6
    · exact ⟨cnt, q, _, _, _, m1, m2, m3, m4.trans hsz, by omega, way_old (by decide) hB, m6, .inr ⟨rfl, e⟩⟩
    · exact ⟨_, q + 1, _, _, _, m1, m2, m3, m4.trans hsz, by omega, way_new (by decide) hI, m6, .inl rfl⟩
end Go.Proofs.YtmpiggcooboenaaDoor.Al

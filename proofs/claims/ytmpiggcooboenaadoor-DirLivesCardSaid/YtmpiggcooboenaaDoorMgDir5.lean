/- Texts of this claim, joined: RedR RedS RedT RfA RfB RfC RfD RfE RfF RfG RlA RedU RedV RedW RlB RlC. -/
import Derived.Test.YtmpiggcooboenaaDoorMgDir1
import Derived.Test.YtmpiggcooboenaaDoorMgDir2
import Derived.Test.YtmpiggcooboenaaDoorMgDir3
import Derived.Test.YtmpiggcooboenaaDoorMgDir4
/- Logs: the plain law, 3: what a disk holds whose log was not committed, or was; opening it. -/
namespace Go.Proofs.YtmpiggcooboenaaDoor.Al
open Go Go.Al Go.Proofs Go.RowKit
set_option maxRecDepth 100000
set_option linter.unusedVariables false
set_option linter.unusedSimpArgs false
theorem right_iff (n : Int) : ∀ (ps : List (Int × List UInt8)) (seen : List Int), rightL n ps seen = true ↔ ((∀ p ∈ ps, isPg n p.1 = true ∧ p.2.length = 240 ∧ p.1 ∉ seen) ∧ (ps.map (·.1)).Nodup)
  | [], seen => by simp [rightL]
  | p :: ps, seen => by
    show (isPg n p.1 && ((p.2.length == 240) && (!(seen.contains p.1) && rightL n ps (p.1 :: seen)))) = true ↔ _
    rw [Bool.and_eq_true, Bool.and_eq_true, Bool.and_eq_true, right_iff n ps (p.1 :: seen), List.map_cons, List.nodup_cons]
    constructor
    · rintro ⟨h1, h2, h3, h4, h5⟩
      have h3 : p.1 ∉ seen := by simpa using h3
      refine ⟨fun x hx => ?_, fun hm => ?_, h5⟩
      · rcases List.mem_cons.1 hx with rfl | hx
        · exact ⟨h1, by simpa using h2, h3⟩
        · obtain ⟨g1, g2, g3⟩ := h4 x hx
          exact ⟨g1, g2, fun e => g3 (List.mem_cons_of_mem _ e)⟩
      · obtain ⟨x, hx, e⟩ := List.mem_map.1 hm
        exact (h4 x hx).2.2 (by rw [e]; exact List.mem_cons_self)
    · rintro ⟨h1, h2, h3⟩
      obtain ⟨g1, g2, g3⟩ := h1 p List.mem_cons_self
      refine ⟨g1, by simpa using g2, by simpa using g3, fun x hx => ?_, h3⟩
      obtain ⟨k1, k2, k3⟩ := h1 x (List.mem_cons_of_mem _ hx)
      refine ⟨k1, k2, fun e => ?_⟩
      rcases List.mem_cons.1 e with e | e
      · exact h2 (by rw [← e]; exact List.mem_map_of_mem hx)
      · exact k3 e
/-- Images that may be committed, under a number. -/
structure Ims (n q : Int) (ps : List (Int × List UInt8)) : Prop where
  pg : ∀ p ∈ ps, isPg n p.1 = true ∧ p.2.length = 240
  nod : (ps.map (·.1)).Nodup
  len : (ps.length : Int) ≤ pagesN n
  q0 : 0 ≤ q ∧ q ≤ 4611686018427387904
theorem secR_of {n q p : Int} (hp : 0 ≤ p ∧ p < 100000) (hq : 0 ≤ q ∧ q ≤ 4611686018427387904) : secR p q = true := by
  unfold secR inM
  rw [show Nat.beq 4 8 = false by decide, cond_false, show ((256 ^ 4 : Nat) : Int) = 4294967296 by decide]
  simp only [Bool.and_eq_true, decide_eq_true_eq]
  omega
theorem Ims.pack {n q : Int} {ps : List (Int × List UInt8)} (h : Ims n q ps) {p : Int × List UInt8} (hp : p ∈ ps) : packY p.1 q p.2 = true := by
  obtain ⟨h1, h2⟩ := h.pg p hp
  have := isPg_iff.1 h1
  have hle := pagesN_le n
  unfold packY
  rw [secR_of (n := n) (by omega) h.q0, h2]
  rfl
theorem Ims.note {n q : Int} {ps : List (Int × List UInt8)} (h : Ims n q ps) : secR (ps.length : Int) q = true := by
  have hle := pagesN_le n
  have := h.len
  exact secR_of (n := n) (by omega) h.q0
theorem note_pack {m q : Int} (h : secR m q = true) : packY m q (List.replicate 240 0) = true := by
  unfold packY
  rw [h, List.length_replicate]
  rfl
theorem logW_at (n q : Int) : ∀ (ps : List (Int × List UInt8)) (i j : Nat) (p : Int × List UInt8), ps[j]? = some p → (slotI n ((i + j : Nat) : Int), packB p.1 q p.2) ∈ logW n q i ps
  | [], i, j, p, h => by cases h
  | x :: ps, i, 0, p, h => by cases h; exact List.mem_cons_self
  | x :: ps, i, j + 1, p, h => by
    refine List.mem_cons_of_mem _ ?_
    have := logW_at n q ps (i + 1) j p h
    rwa [show i + 1 + j = i + (j + 1) by omega] at this
theorem logW_of (n q : Int) : ∀ (ps : List (Int × List UInt8)) (i : Nat) (w : Int × List UInt8), w ∈ logW n q i ps → ∃ j p, ps[j]? = some p ∧ w = (slotI n ((i + j : Nat) : Int), packB p.1 q p.2)
  | [], i, w, h => by cases h
  | x :: ps, i, w, h => by
    rcases List.mem_cons.1 h with rfl | h
    · exact ⟨0, x, rfl, rfl⟩
    · obtain ⟨j, p, h1, h2⟩ := logW_of n q ps (i + 1) w h
      exact ⟨j + 1, p, h1, by rw [h2, show i + 1 + j = i + (j + 1) by omega]⟩
theorem logW_ok {n q : Int} {ps : List (Int × List UInt8)} (h : Ims n q ps) : OkW n (logW n q 0 ps) := fun w hw => by
  obtain ⟨j, p, h1, rfl⟩ := logW_of n q ps 0 w hw
  have hj := (List.getElem?_eq_some_iff.1 h1).1
  have hl := h.len
  obtain ⟨g1, g2, g3⟩ := slot_range (n := n) (i := ((0 + j : Nat) : Int)) (by omega)
  exact ⟨⟨g2, g3⟩, packB_len (h.pack (List.mem_of_getElem? h1))⟩
theorem homW_ok {n q : Int} {ps : List (Int × List UInt8)} (h : Ims n q ps) : OkW n (homW n q ps) := fun w hw => by
  obtain ⟨p, hp, rfl⟩ := List.mem_map.1 hw
  obtain ⟨g1, g2, g3⟩ := home_range (isPg_iff.1 (h.pg p hp).1)
  exact ⟨⟨g2, g3⟩, packB_len (h.pack hp)⟩
theorem logW_keys (n q : Int) : ∀ (ps : List (Int × List UInt8)) (i : Nat), (i : Int) + ps.length ≤ pagesN n → ((logW n q i ps).map (·.1)).Nodup
  | [], i, h => List.nodup_nil
  | p :: ps, i, h => by
    rw [List.length_cons] at h
    show (slotI n (i : Int) :: (logW n q (i + 1) ps).map (·.1)).Nodup
    rw [List.nodup_cons]
    refine ⟨fun hm => ?_, logW_keys n q ps (i + 1) (by omega)⟩
    obtain ⟨w, hw, e⟩ := List.mem_map.1 hm
    obtain ⟨j, x, h1, rfl⟩ := logW_of n q ps (i + 1) w hw
    have hj := (List.getElem?_eq_some_iff.1 h1).1
    have e : slotI n ((i + 1 + j : Nat) : Int) = slotI n (i : Int) := e
    rw [(slot_range (n := n) (i := ((i + 1 + j : Nat) : Int)) (by omega)).1, (slot_range (n := n) (i := (i : Int)) (by omega)).1] at e
    omega
theorem homW_keys {n q : Int} : ∀ {ps : List (Int × List UInt8)}, (∀ p ∈ ps, isPg n p.1 = true) → (ps.map (·.1)).Nodup → ((homW n q ps).map (·.1)).Nodup
  | [], _, _ => List.nodup_nil
  | p :: ps, h, hn => by
    rw [List.map_cons, List.nodup_cons] at hn
    show (homeI n p.1 :: (homW n q ps).map (·.1)).Nodup
    rw [List.nodup_cons]
    refine ⟨fun hm => ?_, homW_keys (fun x hx => h x (List.mem_cons_of_mem _ hx)) hn.2⟩
    obtain ⟨w, hw, e⟩ := List.mem_map.1 hm
    obtain ⟨x, hx, rfl⟩ := List.mem_map.1 hw
    have e : homeI n x.1 = homeI n p.1 := e
    rw [(home_range (isPg_iff.1 (h x (List.mem_cons_of_mem _ hx)))).1, (home_range (isPg_iff.1 (h p List.mem_cons_self))).1] at e
    exact hn.1 (by rw [show p.1 = x.1 by omega]; exact List.mem_map_of_mem hx)
theorem putAll_or (ws : List (Int × List UInt8)) : ∀ (c : Int → List UInt8) (k : Int), putAll c ws k = c k ∨ (k, putAll c ws k) ∈ ws := by
  induction ws with
  | nil => exact fun c k => .inl rfl
  | cons p ws ih =>
    intro c k
    rw [putAll_cons]
    rcases ih (fun k => if k = p.1 then p.2 else c k) k with h | h
    · rw [h]
      by_cases e : k = p.1
      · refine .inr ?_
        rw [if_pos e, e]
        exact List.mem_cons_self
      · exact .inl (if_neg e)
    · exact .inr (List.mem_cons_of_mem _ h)
/-- What stands at the mark and in the slots is a commit of images. -/
structure Slots (n q : Int) (ps : List (Int × List UInt8)) (c : Int → List UInt8) : Prop where
  mark : c 0 = noteB (ps.length : Int) q
  slot : ∀ (j : Nat) p, ps[j]? = some p → c (slotI n (j : Int)) = packB p.1 q p.2
theorem rdN_note {n m q : Int} {c : Int → List UInt8} (hn : 3 ≤ n) (hs : secR m q = true) (h : c 0 = noteB m q) : rdN (cO n) c = (m, q, 0) := by
  have e : (cO n).rdE c 0 = 0 := if_pos ⟨Int.le_refl 0, by omega⟩
  have l : (cO n).rdL c 0 = noteB m q := (if_pos ⟨Int.le_refl 0, by omega⟩ : _ = c 0).trans h
  obtain ⟨_, h1, h2, _, h3⟩ := un_pack (note_pack hs)
  unfold rdN
  rw [if_pos e, l]
  unfold noteB
  rw [h1, h2, h3]
theorem slots_whl {n q : Int} {ps : List (Int × List UInt8)} {c : Int → List UInt8} (hI : Ims n q ps) (h : Slots n q ps c) : ∀ k i : Nat, i + k = ps.length → whl (cO n) c q k i = some (homW n q (ps.drop i))
  | 0, i, e => by
    rw [List.drop_of_length_le (by omega)]
    rfl
  | k + 1, i, e => by
    have hi : i < ps.length := by omega
    have hx : ps[i]? = some ps[i] := List.getElem?_eq_getElem hi
    have hpk := hI.pack (List.getElem_mem hi)
    obtain ⟨_, u1, u2, _, u4⟩ := un_pack hpk
    have hl := hI.len
    obtain ⟨g1, g2, g3⟩ := slot_range (n := n) (i := (i : Int)) (by omega)
    have hL : (cO n).rdL c (slotI n (i : Int)) = packB ps[i].1 q ps[i].2 := (if_pos ⟨g2, g3⟩ : _ = c (slotI n (i : Int))).trans (h.slot i _ hx)
    have hE : (cO n).rdE c (slotI n (i : Int)) = 0 := if_pos ⟨g2, g3⟩
    have hY : slotY (cO n) c q (i : Int) = true := by
      show (isPg n (i : Int) && (((cO n).rdE c (slotI n (i : Int)) == 0) && ((unE ((cO n).rdL c (slotI n (i : Int))) == 0) && ((unQ ((cO n).rdL c (slotI n (i : Int))) == q) && isPg n (unP ((cO n).rdL c (slotI n (i : Int)))))))) = true
      rw [hL, hE, u1, u2, u4, isPg_iff.2 (by omega : 0 ≤ (i : Int) ∧ (i : Int) < pagesN n), (hI.pg _ (List.getElem_mem hi)).1]
      simp
    have hP : slotP (cO n) c (i : Int) = (homeI n ps[i].1, packB ps[i].1 q ps[i].2) := by
      show (homeI n (unP ((cO n).rdL c (slotI n (i : Int)))), (cO n).rdL c (slotI n (i : Int))) = _
      rw [hL, u1]
    show (if slotY (cO n) c q (i : Int) = true then (whl (cO n) c q k (i + 1)).map (slotP (cO n) c (i : Int) :: ·) else none) = _
    rw [if_pos hY, slots_whl hI h k (i + 1) (by omega), hP, List.drop_eq_getElem_cons hi]
    rfl
theorem slots_whole {n q : Int} {ps : List (Int × List UInt8)} {c : Int → List UInt8} (hI : Ims n q ps) (h : Slots n q ps c) : wholeO (cO n) c (ps.length : Int) q = some (homW n q ps) := by
  unfold wholeO
  rw [if_neg (by have := hI.len; show ¬ (ps.length : Int) > pagesN n; omega), Int.toNat_natCast, slots_whl hI h ps.length 0 (by omega), List.drop_zero]
end Go.Proofs.YtmpiggcooboenaaDoor.Al
/- Logs: the plain law, 4: committing, opening, crashes. -/
namespace Go.Proofs.YtmpiggcooboenaaDoor.Al
open Go Go.Al Go.Proofs Go.RowKit
set_option maxRecDepth 100000
set_option linter.unusedVariables false
set_option linter.unusedSimpArgs false
/-- What stands on a disk all of whose pages are at home. -/
structure Base (n cnt q : Int) (c0 : Int → List UInt8) : Prop where
  rd : rdN (cO n) c0 = (cnt, q, 0)
  same : ∀ ws, wholeO (cO n) c0 cnt q = some ws → OkW n ws ∧ ∀ p ∈ ws, c0 p.1 = p.2
/-- .. of which slots alone are otherwise, by another number. -/
structure Old (n q : Int) (c0 c : Int → List UInt8) : Prop where
  mark : c 0 = c0 0
  home : ∀ p, isPg n p = true → c (homeI n p) = c0 (homeI n p)
  slot : ∀ i, isPg n i = true → c (slotI n i) = c0 (slotI n i) ∨ unQ (c (slotI n i)) ≠ q
structure New (n q : Int) (ps : List (Int × List UInt8)) (c0 c : Int → List UInt8) : Prop where
  slots : Slots n q ps c
  home : ∀ p, isPg n p = true → c (homeI n p) = c0 (homeI n p) ∨ ∃ x ∈ ps, x.1 = p ∧ c (homeI n p) = packB p q x.2
structure Done (n q : Int) (ps : List (Int × List UInt8)) (c0 c : Int → List UInt8) : Prop where
  slots : Slots n q ps c
  yes : ∀ x ∈ ps, c (homeI n x.1) = packB x.1 q x.2
  no : ∀ p, isPg n p = true → (∀ x ∈ ps, x.1 ≠ p) → c (homeI n p) = c0 (homeI n p)
theorem Done.new {n q : Int} {ps : List (Int × List UInt8)} {c0 c : Int → List UInt8} (h : Done n q ps c0 c) : New n q ps c0 c := ⟨h.slots, fun p hp => by
  by_cases e : ∃ x ∈ ps, x.1 = p
  · obtain ⟨x, hx, rfl⟩ := e
    exact .inr ⟨x, hx, rfl, h.yes x hx⟩
  · exact .inl (h.no p hp fun x hx e2 => e ⟨x, hx, e2⟩)⟩
theorem whl_ok {n q : Int} (c : Int → List UInt8) : ∀ (k i : Nat) (ws : List (Int × List UInt8)), whl (cO n) c q k i = some ws → ∀ w ∈ ws, ∃ p, isPg n p = true ∧ w.1 = homeI n p ∧ w.2.length = 256
  | 0, i, ws, h, w, hw => by cases h; cases hw
  | k + 1, i, ws, h, w, hw => by
    have h : (if slotY (cO n) c q (i : Int) = true then (whl (cO n) c q k (i + 1)).map (slotP (cO n) c (i : Int) :: ·) else none) = some ws := h
    split at h
    · next hy =>
      cases e : whl (cO n) c q k (i + 1) with
      | none => rw [e] at h; cases h
      | some us =>
        rw [e] at h
        cases h
        rcases List.mem_cons.1 hw with rfl | hw
        · unfold slotY at hy
          simp only [Bool.and_eq_true, beq_iff_eq] at hy
          exact ⟨_, hy.2.2.2.2, rfl, unE_len hy.2.2.1⟩
        · exact whl_ok c k (i + 1) us e w hw
    · cases h
theorem whole_ok {n cnt q : Int} {c : Int → List UInt8} {ws : List (Int × List UInt8)} (h : wholeO (cO n) c cnt q = some ws) : OkW n ws ∧ (∀ w ∈ ws, ∃ p, isPg n p = true ∧ w.1 = homeI n p) ∧ ws.length ≤ 32768 := by
  have hl := wholeO_len h
  have hle := pagesN_le n
  have hl2 : cnt ≤ pagesN n := hl.2
  unfold wholeO at h
  split at h
  · cases h
  · have := whl_ok c _ _ ws h
    refine ⟨fun w hw => ?_, fun w hw => ?_, by omega⟩
    · obtain ⟨p, h1, h2, h3⟩ := this w hw
      obtain ⟨_, g1, g2⟩ := home_range (isPg_iff.1 h1)
      rw [h2]
      exact ⟨⟨g1, g2⟩, h3⟩
    · obtain ⟨p, h1, h2, _⟩ := this w hw
      exact ⟨p, h1, h2⟩
theorem old_whl {n q : Int} {c0 c : Int → List UInt8} (h : Old n q c0 c) : ∀ (k i : Nat) (ws : List (Int × List UInt8)), whl (cO n) c q k i = some ws → whl (cO n) c0 q k i = some ws
  | 0, i, ws, e => e
  | k + 1, i, ws, e => by
    have e : (if slotY (cO n) c q (i : Int) = true then (whl (cO n) c q k (i + 1)).map (slotP (cO n) c (i : Int) :: ·) else none) = some ws := e
    split at e
    · next hy =>
      have hy2 := hy
      unfold slotY at hy
      simp only [Bool.and_eq_true, beq_iff_eq] at hy
      obtain ⟨h1, h2, h3, h4, h5⟩ := hy
      have h1 : isPg n (i : Int) = true := h1
      obtain ⟨_, g2, g3⟩ := slot_range (isPg_iff.1 h1)
      have hL : ∀ c, (cO n).rdL c (slotI n (i : Int)) = c (slotI n (i : Int)) := fun c => if_pos ⟨g2, g3⟩
      have h4 : unQ ((cO n).rdL c (slotI n (i : Int))) = q := h4
      rw [hL] at h4
      have hs := (h.slot (i : Int) h1).resolve_right fun x => x h4
      have hLL : (cO n).rdL c (slotI n (i : Int)) = (cO n).rdL c0 (slotI n (i : Int)) := by rw [hL, hL, hs]
      have hY : slotY (cO n) c0 q (i : Int) = true := by
        rw [← hy2]
        show (isPg n (i : Int) && (_ && ((unE ((cO n).rdL c0 (slotI n (i : Int))) == 0) && ((unQ ((cO n).rdL c0 (slotI n (i : Int))) == q) && isPg n (unP ((cO n).rdL c0 (slotI n (i : Int)))))))) = (isPg n (i : Int) && (_ && ((unE ((cO n).rdL c (slotI n (i : Int))) == 0) && ((unQ ((cO n).rdL c (slotI n (i : Int))) == q) && isPg n (unP ((cO n).rdL c (slotI n (i : Int))))))))
        rw [hLL]
        rfl
      have hP : slotP (cO n) c0 (i : Int) = slotP (cO n) c (i : Int) := by
        show (homeI n (unP ((cO n).rdL c0 (slotI n (i : Int)))), (cO n).rdL c0 (slotI n (i : Int))) = (homeI n (unP ((cO n).rdL c (slotI n (i : Int)))), (cO n).rdL c (slotI n (i : Int)))
        rw [hLL]
      show (if slotY (cO n) c0 q (i : Int) = true then (whl (cO n) c0 q k (i + 1)).map (slotP (cO n) c0 (i : Int) :: ·) else none) = some ws
      rw [if_pos hY, hP]
      cases e2 : whl (cO n) c q k (i + 1) with
      | none => rw [e2] at e; cases e
      | some us =>
        rw [old_whl h k (i + 1) us e2, ← e2]
        exact e
    · cases e
theorem old_whole {n cnt q : Int} {c0 c : Int → List UInt8} (h : Old n q c0 c) {ws : List (Int × List UInt8)} (e : wholeO (cO n) c cnt q = some ws) : wholeO (cO n) c0 cnt q = some ws := by
  unfold wholeO at e ⊢
  split at e
  · cases e
  · next hn =>
    rw [if_neg (show ¬ cnt > pagesN ((cO n).sz c0) from hn)]
    exact old_whl h _ _ ws e
/-- What opening a log keeps true. -/
structure Cls (n cnt q : Int) (X : (Int → List UInt8) → Prop) : Prop where
  rd : ∀ c, X c → rdN (cO n) c = (cnt, q, 0)
  ok : ∀ c ws, X c → wholeO (cO n) c cnt q = some ws → ∀ c', (∀ k, c' k = c k ∨ (k, c' k) ∈ ws) → X c'
theorem home_ne {n p : Int} (h : isPg n p = true) : homeI n p ≠ 0 ∧ ∀ i, isPg n i = true → homeI n p ≠ slotI n i := by
  have h1 := isPg_iff.1 h
  refine ⟨by rw [(home_range h1).1]; omega, fun i hi => ?_⟩
  have h2 := isPg_iff.1 hi
  rw [(home_range h1).1, (slot_range h2).1]
  omega
theorem home_inj {n p p' : Int} (h : isPg n p = true) (h' : isPg n p' = true) (e : homeI n p = homeI n p') : p = p' := by
  rw [(home_range (isPg_iff.1 h)).1, (home_range (isPg_iff.1 h')).1] at e
  omega
theorem cls_old {n cnt q : Int} {c0 : Int → List UInt8} (hn : 3 ≤ n) (hB : Base n cnt q c0) : Cls n cnt q (Old n q c0) := by
  refine ⟨fun c h => ?_, fun c ws h e c' hc => ?_⟩
  · rw [← hB.rd]
    have l : (cO n).rdL c 0 = (cO n).rdL c0 0 := by
      show (if 0 ≤ (0 : Int) ∧ 0 < n then c 0 else []) = (if 0 ≤ (0 : Int) ∧ 0 < n then c0 0 else [])
      rw [h.mark]
    show (if (cO n).rdE c 0 = 0 then (unP ((cO n).rdL c 0), unQ ((cO n).rdL c 0), unE ((cO n).rdL c 0)) else (0, 0, (cO n).rdE c 0)) = (if (cO n).rdE c0 0 = 0 then (unP ((cO n).rdL c0 0), unQ ((cO n).rdL c0 0), unE ((cO n).rdL c0 0)) else (0, 0, (cO n).rdE c0 0))
    rw [l]
    rfl
  · obtain ⟨_, hh, _⟩ := whole_ok e
    obtain ⟨_, hs⟩ := hB.same ws (old_whole h e)
    refine ⟨?_, fun p hp => ?_, fun i hi => ?_⟩
    · rcases hc 0 with e2 | e2
      · rw [e2, h.mark]
      · obtain ⟨p, hp, e3⟩ := hh _ e2
        exact absurd e3.symm (home_ne hp).1
    · rcases hc (homeI n p) with e2 | e2
      · rw [e2, h.home p hp]
      · exact (hs _ e2).symm
    · rcases hc (slotI n i) with e2 | e2
      · rw [e2]; exact h.slot i hi
      · obtain ⟨p, hp, e3⟩ := hh _ e2
        exact absurd e3.symm ((home_ne hp).2 i hi)
theorem slots_keep {n q : Int} {ps : List (Int × List UInt8)} {c c' : Int → List UInt8} {ws : List (Int × List UInt8)} (hl : (ps.length : Int) ≤ pagesN n) (h : Slots n q ps c) (hh : ∀ w ∈ ws, ∃ p, isPg n p = true ∧ w.1 = homeI n p) (hc : ∀ k, c' k = c k ∨ (k, c' k) ∈ ws) : Slots n q ps c' := by
  refine ⟨?_, fun j p hj => ?_⟩
  · rcases hc 0 with e2 | e2
    · rw [e2, h.mark]
    · obtain ⟨p, hp, e3⟩ := hh _ e2
      exact absurd e3.symm (home_ne hp).1
  · have hjl := (List.getElem?_eq_some_iff.1 hj).1
    rcases hc (slotI n (j : Int)) with e2 | e2
    · rw [e2, h.slot j p hj]
    · obtain ⟨x, hx, e3⟩ := hh _ e2
      exact absurd e3.symm ((home_ne hx).2 (j : Int) (isPg_iff.2 (by omega)))
theorem cls_new {n q : Int} {ps : List (Int × List UInt8)} {c0 : Int → List UInt8} (hn : 3 ≤ n) (hI : Ims n q ps) : Cls n (ps.length : Int) q (New n q ps c0) := by
  refine ⟨fun c h => rdN_note hn hI.note h.slots.mark, fun c ws h e c' hc => ?_⟩
  obtain ⟨_, hh, _⟩ := whole_ok e
  rw [slots_whole hI h.slots] at e
  cases e
  refine ⟨slots_keep hI.len h.slots hh hc, fun p hp => ?_⟩
  rcases hc (homeI n p) with e2 | e2
  · rw [e2]; exact h.home p hp
  · obtain ⟨x, hx, e3⟩ := List.mem_map.1 e2
    have e4 := home_inj (hI.pg x hx).1 hp (congrArg Prod.fst e3)
    refine .inr ⟨x, hx, e4, ?_⟩
    have := congrArg Prod.snd e3
    rw [← e4] at this ⊢
    exact this.symm
theorem cls_done {n q : Int} {ps : List (Int × List UInt8)} {c0 : Int → List UInt8} (hn : 3 ≤ n) (hI : Ims n q ps) : Cls n (ps.length : Int) q (Done n q ps c0) := by
  refine ⟨fun c h => rdN_note hn hI.note h.slots.mark, fun c ws h e c' hc => ?_⟩
  obtain ⟨_, hh, _⟩ := whole_ok e
  rw [slots_whole hI h.slots] at e
  cases e
  have key : ∀ p, isPg n p = true → c' (homeI n p) = c (homeI n p) := fun p hp => by
    rcases hc (homeI n p) with e2 | e2
    · exact e2
    · obtain ⟨x, hx, e3⟩ := List.mem_map.1 e2
      have e4 := home_inj (hI.pg x hx).1 hp (congrArg Prod.fst e3)
      have := congrArg Prod.snd e3
      have e5 : packB x.1 q x.2 = c' (homeI n p) := this
      rw [← e5, ← e4, h.yes x hx]
  exact ⟨slots_keep hI.len h.slots hh hc, fun x hx => by rw [key _ (hI.pg x hx).1]; exact h.yes x hx, fun p hp hno => by rw [key p hp]; exact h.no p hp hno⟩
theorem done_of_new {n q : Int} {ps : List (Int × List UInt8)} {c0 c : Int → List UInt8} (hI : Ims n q ps) (h : New n q ps c0 c) : Done n q ps c0 (putAll c (homW n q ps)) := by
  have hh : ∀ w ∈ homW n q ps, ∃ p, isPg n p = true ∧ w.1 = homeI n p := fun w hw => by
    obtain ⟨x, hx, rfl⟩ := List.mem_map.1 hw
    exact ⟨x.1, (hI.pg x hx).1, rfl⟩
  refine ⟨slots_keep hI.len h.slots hh (putAll_or _ c), fun x hx => ?_, fun p hp hno => ?_⟩
  · have := putAll_yes (homW_keys (fun p hp => (hI.pg p hp).1) hI.nod) (p := (homeI n x.1, packB x.1 q x.2)) (List.mem_map.2 ⟨x, hx, rfl⟩) c
    exact this
  · rw [putAll_no _ _ fun w hw e => ?_]
    · rcases h.home p hp with e | ⟨x, hx, e, _⟩
      · exact e
      · exact absurd e (hno x hx)
    · obtain ⟨x, hx, rfl⟩ := List.mem_map.1 hw
      exact hno x hx (home_inj (hI.pg x hx).1 hp e)
/-- Opening a log on a disk that nothing brings down. -/
theorem open_up {s : DS} {cnt q : Int} {X : (Int → List UInt8) → Prop} (hX : Cls s.size cnt q X) (hu : Up s) (hd : DWf s) (hc : Calm s) (hw : s.writes + 32768 < 1000000000) (hx : X (secB s)) :
    (openS dsO s).2 = (0, some q) ∧ Up (openS dsO s).1 ∧ DWf (openS dsO s).1 ∧ Calm (openS dsO s).1 ∧ (openS dsO s).1.size = s.size ∧ X (secB (openS dsO s).1) ∧ (openS dsO s).1.writes ≤ s.writes + 32768 ∧ (∀ ws, wholeO (cO s.size) (secB s) cnt q = some ws → secB (openS dsO s).1 = putAll (secB s) ws ∧ (openS dsO s).1.writes = s.writes + ws.length) := by
  have hS := same_c hu.down
  have h1 : rdN dsO s = (cnt, q, 0) := hS.rdN.trans (hX.rd _ hx)
  have h2 : wholeO dsO s cnt q = wholeO (cO s.size) (secB s) cnt q := hS.whole cnt q
  unfold openS
  rw [h1]
  dsimp only
  rw [if_neg (by decide), h2]
  cases e : wholeO (cO s.size) (secB s) cnt q with
  | none => exact ⟨rfl, hu, hd, hc, rfl, hx, by show s.writes ≤ _; omega, fun ws h => by cases h⟩
  | some ws =>
    obtain ⟨k1, k2, k3⟩ := whole_ok e
    obtain ⟨g1, g2, g3, g4, g5, g6, g7⟩ := runW_up ws s hu hd (by omega) k1
    dsimp only
    rw [if_neg (by rw [g1]; decide)]
    refine ⟨rfl, g2, g3, g4, g7, hX.ok _ ws hx e _ fun k => ?_, by show (runW dsO s ws).1.writes ≤ _; omega, fun us h => by cases h; exact ⟨funext g5, g6⟩⟩
    show secB (runW dsO s ws).1 k = secB s k ∨ (k, secB (runW dsO s ws).1 k) ∈ ws
    rw [g5]
    exact putAll_or ws _ k
/-- Opening a log on a disk that may go down, and a crash behind. -/
theorem open_mid {s : DS} {cnt q : Int} {X : (Int → List UInt8) → Prop} (hX : Cls s.size cnt q X) (hu : s.down = false) (hd : DWf s) (hc : Calm s) (hw : s.writes + 32768 < 1000000000) (hx : X (secB s)) (keep : List Int) :
    Up (crashS (openS dsO s).1 keep) ∧ DWf (crashS (openS dsO s).1 keep) ∧ Calm (crashS (openS dsO s).1 keep) ∧ (crashS (openS dsO s).1 keep).size = s.size ∧ X (secB (crashS (openS dsO s).1 keep)) ∧ (crashS (openS dsO s).1 keep).writes ≤ s.writes + 32768 ∧ DWf (openS dsO s).1 := by
  have hS := same_c hu
  have h1 : rdN dsO s = (cnt, q, 0) := hS.rdN.trans (hX.rd _ hx)
  have h2 : wholeO dsO s cnt q = wholeO (cO s.size) (secB s) cnt q := hS.whole cnt q
  have he : ∃ ws, (openS dsO s).1 = s ∨ ((openS dsO s).1 = (runW dsO s ws).1 ∧ wholeO (cO s.size) (secB s) cnt q = some ws) := by
    unfold openS
    rw [h1]
    dsimp only
    rw [if_neg (by decide), h2]
    cases e : wholeO (cO s.size) (secB s) cnt q with
    | none => exact ⟨[], .inl rfl⟩
    | some ws =>
      dsimp only
      split
      · exact ⟨ws, .inr ⟨rfl, rfl⟩⟩
      · exact ⟨ws, .inr ⟨rfl, rfl⟩⟩
  obtain ⟨ws, e | ⟨e, hw2⟩⟩ := he
  · rw [e]
    obtain ⟨g1, g2, g3, g4, g5, g6⟩ := calm_crash hd hc keep
    exact ⟨g3, g1, g2, g4, by rw [funext g6]; exact hx, by omega, hd⟩
  · rw [e]
    obtain ⟨k1, k2, k3⟩ := whole_ok hw2
    obtain ⟨l1, l2⟩ := runW_le ws s
    rcases runW_mid ws [] s hu (mid_calm hd hc) (by omega) k1 with ⟨g1, g2, g3, g4, g5⟩ | ⟨g1, g2⟩
    · obtain ⟨m1, m2, m3, m4, m5, m6⟩ := calm_crash g3 g4 keep
      refine ⟨m3, m1, m2, m4.trans l2, hX.ok _ ws hx hw2 _ fun k => ?_, by omega, g3⟩
      rw [m6, g5]
      exact putAll_or ws _ k
    · rw [List.nil_append] at g2
      obtain ⟨m1, m2, m3, m4, m5, m6⟩ := mid_crash g2 keep
      exact ⟨m3, m1, m2, m4.trans l2, hX.ok _ ws hx hw2 _ m6, by omega, g2.wf⟩
end Go.Proofs.YtmpiggcooboenaaDoor.Al
/- Logs: the plain law, 5: commits, and what pages tell. -/
namespace Go.Proofs.YtmpiggcooboenaaDoor.Al
open Go Go.Al Go.Proofs Go.RowKit
set_option maxRecDepth 100000
set_option linter.unusedVariables false
set_option linter.unusedSimpArgs false
theorem putLog {n q : Int} {ps : List (Int × List UInt8)} (hI : Ims n q ps) (c : Int → List UInt8) : (∀ (j : Nat) p, ps[j]? = some p → putAll c (logW n q 0 ps) (slotI n (j : Int)) = packB p.1 q p.2) ∧ putAll c (logW n q 0 ps) 0 = c 0 ∧ (∀ p, isPg n p = true → putAll c (logW n q 0 ps) (homeI n p) = c (homeI n p)) := by
  have hl := hI.len
  refine ⟨fun j p hj => ?_, putAll_no _ _ (fun w hw e => ?_) _, fun p hp => putAll_no _ _ (fun w hw e => ?_) _⟩
  · have hm := logW_at n q ps 0 j p hj
    rw [Nat.zero_add] at hm
    exact putAll_yes (logW_keys n q ps 0 (by omega)) hm c
  · obtain ⟨j, p, h1, rfl⟩ := logW_of n q ps 0 w hw
    have hj := (List.getElem?_eq_some_iff.1 h1).1
    have e : slotI n ((0 + j : Nat) : Int) = 0 := e
    rw [(slot_range (n := n) (i := ((0 + j : Nat) : Int)) (by omega)).1] at e
    omega
  · obtain ⟨j, x, h1, rfl⟩ := logW_of n q ps 0 w hw
    have hj := (List.getElem?_eq_some_iff.1 h1).1
    exact (home_ne hp).2 ((0 + j : Nat) : Int) (isPg_iff.2 (by omega)) e.symm
theorem put_one (c : Int → List UInt8) (l : List UInt8) (k : Int) : putAll c [(0, l)] k = if k = 0 then l else c k := rfl
theorem slots_put {n q : Int} {ps : List (Int × List UInt8)} (hI : Ims n q ps) (c : Int → List UInt8) : Slots n q ps (putAll (putAll c (logW n q 0 ps)) [(0, noteB (ps.length : Int) q)]) ∧ ∀ p, isPg n p = true → putAll (putAll c (logW n q 0 ps)) [(0, noteB (ps.length : Int) q)] (homeI n p) = c (homeI n p) := by
  obtain ⟨h1, h2, h3⟩ := putLog hI c
  have hl := hI.len
  refine ⟨⟨by rw [put_one, if_pos rfl], fun j p hj => ?_⟩, fun p hp => ?_⟩
  · have hjl := (List.getElem?_eq_some_iff.1 hj).1
    rw [put_one, if_neg (by rw [(slot_range (n := n) (i := (j : Int)) (by omega)).1]; omega)]
    exact h1 j p hj
  · rw [put_one, if_neg (home_ne hp).1]
    exact h3 p hp
theorem Ims.right {n q : Int} {ps : List (Int × List UInt8)} (h : Ims n q ps) : rightL n ps [] = true := (right_iff n ps []).2 ⟨fun p hp => ⟨(h.pg p hp).1, (h.pg p hp).2, List.not_mem_nil⟩, h.nod⟩
theorem commit_eq {s : DS} {q : Int} {ps : List (Int × List UInt8)} (hI : Ims s.size (q + 1) ps) (h0 : ps ≠ []) : commitS dsO s q ps =
    if (runW dsO s (logW s.size (q + 1) 0 ps)).2 ≠ 0 then ((runW dsO s (logW s.size (q + 1) 0 ps)).1, (runW dsO s (logW s.size (q + 1) 0 ps)).2, q) else
    if (runW dsO (runW dsO s (logW s.size (q + 1) 0 ps)).1 [(0, noteB ps.length (q + 1))]).2 ≠ 0 then ((runW dsO (runW dsO s (logW s.size (q + 1) 0 ps)).1 [(0, noteB ps.length (q + 1))]).1, (runW dsO (runW dsO s (logW s.size (q + 1) 0 ps)).1 [(0, noteB ps.length (q + 1))]).2, q) else
    ((runW dsO (runW dsO (runW dsO s (logW s.size (q + 1) 0 ps)).1 [(0, noteB ps.length (q + 1))]).1 (homW s.size (q + 1) ps)).1, (runW dsO (runW dsO (runW dsO s (logW s.size (q + 1) 0 ps)).1 [(0, noteB ps.length (q + 1))]).1 (homW s.size (q + 1) ps)).2, q + 1) := by
  unfold commitS
  rw [if_neg (by have := hI.len; show ¬ (ps.length : Int) > pagesN s.size; omega), if_neg (by show ¬ rightL s.size ps [] = false; rw [hI.right]; decide), if_neg (by intro e; exact h0 (List.length_eq_zero_iff.1 e))]
  rfl
theorem commit_none (s : DS) (q : Int) : commitS dsO s q [] = (s, 0, q) := by
  unfold commitS
  have := pagesN_le s.size
  rw [if_neg (by show ¬ ((0 : Nat) : Int) > pagesN s.size; omega), if_neg (by show ¬ true = false; decide)]
  rfl
theorem note_ok {n q : Int} {ps : List (Int × List UInt8)} (hn : 3 ≤ n) (hI : Ims n q ps) : OkW n [(0, noteB (ps.length : Int) q)] := fun p hp => by
  have h := noteB_len hI.note
  generalize noteB (ps.length : Int) q = l at h hp
  rw [List.mem_singleton] at hp
  subst hp
  exact ⟨⟨Int.le_refl 0, by show (0 : Int) < n; omega⟩, h⟩
/-- A commit that nothing stops. -/
theorem commit_up {s : DS} {q : Int} {ps : List (Int × List UInt8)} (hI : Ims s.size (q + 1) ps) (h0 : ps ≠ []) (hu : Up s) (hd : DWf s) (hw : s.writes + 100000 < 1000000000) :
    (commitS dsO s q ps).2 = (0, q + 1) ∧ Up (commitS dsO s q ps).1 ∧ DWf (commitS dsO s q ps).1 ∧ Calm (commitS dsO s q ps).1 ∧ (commitS dsO s q ps).1.size = s.size ∧ Done s.size (q + 1) ps (secB s) (secB (commitS dsO s q ps).1) ∧ (commitS dsO s q ps).1.writes = s.writes + 2 * ps.length + 1 := by
  have hn := hd.sz.1
  have hl := hI.len
  have hle := pagesN_le s.size
  have e1 := logW_len s.size (q + 1) 0 ps
  have e2 : (homW s.size (q + 1) ps).length = ps.length := by unfold homW; rw [List.length_map]
  obtain ⟨a1, a2, a3, a4, a5, a6, a7⟩ := runW_up (logW s.size (q + 1) 0 ps) s hu hd (by omega) (logW_ok hI)
  have hce := commit_eq hI h0
  rw [if_neg (by rw [a1]; decide)] at hce
  generalize runW dsO s (logW s.size (q + 1) 0 ps) = r1 at a1 a2 a3 a4 a5 a6 a7 hce
  obtain ⟨b1, b2, b3, b4, b5, b6, b7⟩ := runW_up [(0, noteB (ps.length : Int) (q + 1))] r1.1 a2 a3 (by show r1.1.writes + ((1 : Nat) : Int) < _; omega) (by rw [a7]; exact note_ok hn hI)
  rw [if_neg (by rw [b1]; decide)] at hce
  generalize runW dsO r1.1 [(0, noteB (ps.length : Int) (q + 1))] = r2 at b1 b2 b3 b4 b5 b6 b7 hce
  replace b6 : r2.1.writes = r1.1.writes + ((1 : Nat) : Int) := b6
  obtain ⟨c1, c2, c3, c4, c5, c6, c7⟩ := runW_up (homW s.size (q + 1) ps) r2.1 b2 b3 (by omega) (by rw [b7, a7]; exact homW_ok hI)
  rw [hce]
  refine ⟨by rw [c1], c2, c3, c4, c7.trans (b7.trans a7), ?_, by show (runW dsO r2.1 (homW s.size (q + 1) ps)).1.writes = _; omega⟩
  have hs : secB (runW dsO r2.1 (homW s.size (q + 1) ps)).1 = putAll (putAll (putAll (secB s) (logW s.size (q + 1) 0 ps)) [(0, noteB (ps.length : Int) (q + 1))]) (homW s.size (q + 1) ps) := by
    funext k
    rw [c5, show secB r2.1 = putAll (secB r1.1) [(0, noteB (ps.length : Int) (q + 1))] from funext b5, show secB r1.1 = putAll (secB s) (logW s.size (q + 1) 0 ps) from funext a5]
  show Done s.size (q + 1) ps (secB s) (secB (runW dsO r2.1 (homW s.size (q + 1) ps)).1)
  rw [hs]
  obtain ⟨g1, g2⟩ := slots_put hI (secB s)
  exact done_of_new hI ⟨g1, fun p hp => .inl (g2 p hp)⟩
/-- A commit that the disk may go down in, and a crash behind. -/
theorem commit_mid {s : DS} {q : Int} {ps : List (Int × List UInt8)} (hI : Ims s.size (q + 1) ps) (h0 : ps ≠ []) (hu : s.down = false) (hd : DWf s) (hc : Calm s) (hw : s.writes + 200000 < 1000000000) (keep : List Int) :
    Up (crashS (commitS dsO s q ps).1 keep) ∧ DWf (crashS (commitS dsO s q ps).1 keep) ∧ Calm (crashS (commitS dsO s q ps).1 keep) ∧ (crashS (commitS dsO s q ps).1 keep).size = s.size ∧ (crashS (commitS dsO s q ps).1 keep).writes ≤ s.writes + 100000 ∧
    (((commitS dsO s q ps).2.1 ≠ 0 ∧ Old s.size q (secB s) (secB (crashS (commitS dsO s q ps).1 keep))) ∨ New s.size (q + 1) ps (secB s) (secB (crashS (commitS dsO s q ps).1 keep))) := by
  have hn := hd.sz.1
  have hl := hI.len
  have hle := pagesN_le s.size
  have e1 := logW_len s.size (q + 1) 0 ps
  have e2 : (homW s.size (q + 1) ps).length = ps.length := by unfold homW; rw [List.length_map]
  have hce := commit_eq hI h0
  obtain ⟨p1, p2, p3⟩ := putLog hI (secB s)
  obtain ⟨l1, l2⟩ := runW_le (logW s.size (q + 1) 0 ps) s
  have oldc : ∀ c : Int → List UInt8, (∀ k, c k = secB s k ∨ (k, c k) ∈ logW s.size (q + 1) 0 ps) → Old s.size q (secB s) c := fun c h => by
    have hk : ∀ k, (k, c k) ∈ logW s.size (q + 1) 0 ps → ∃ (j : Nat) (p : Int × List UInt8), isPg s.size (j : Int) = true ∧ k = slotI s.size (j : Int) ∧ p ∈ ps ∧ c k = packB p.1 (q + 1) p.2 := fun k hm => by
      obtain ⟨j, p, h1, h2⟩ := logW_of _ _ ps 0 _ hm
      have hj := (List.getElem?_eq_some_iff.1 h1).1
      rw [Nat.zero_add] at h2
      exact ⟨j, p, isPg_iff.2 (by omega), congrArg Prod.fst h2, List.mem_of_getElem? h1, congrArg Prod.snd h2⟩
    refine ⟨(h 0).resolve_right fun e => ?_, fun p hp => (h _).resolve_right fun e => ?_, fun i hi => (h _).imp id fun e => ?_⟩
    · obtain ⟨j, p, h1, h2, _⟩ := hk 0 e
      rw [(slot_range (isPg_iff.1 h1)).1] at h2
      have := isPg_iff.1 h1
      omega
    · obtain ⟨j, x, h1, h2, _⟩ := hk _ e
      exact (home_ne hp).2 _ h1 h2
    · obtain ⟨j, x, h1, h2, h3, h4⟩ := hk _ e
      obtain ⟨_, _, u2, _⟩ := un_pack (hI.pack h3)
      rw [h4, u2]
      omega
  rcases runW_mid (logW s.size (q + 1) 0 ps) [] s hu (mid_calm hd hc) (by omega) (logW_ok hI) with ⟨a1, a2, a3, a4, a5⟩ | ⟨a1, a2⟩
  rotate_left
  · rw [if_pos a1] at hce
    rw [hce]
    rw [List.nil_append] at a2
    obtain ⟨m1, m2, m3, m4, m5, m6⟩ := mid_crash a2 keep
    exact ⟨m3, m1, m2, m4.trans l2, by show (crashS (runW dsO s (logW s.size (q + 1) 0 ps)).1 keep).writes ≤ _; omega, .inl ⟨a1, oldc _ m6⟩⟩
  rw [if_neg (by rw [a1]; decide)] at hce
  generalize runW dsO s (logW s.size (q + 1) 0 ps) = r1 at a1 a2 a3 a4 a5 l1 l2 hce
  have hs1 : secB r1.1 = putAll (secB s) (logW s.size (q + 1) 0 ps) := funext a5
  obtain ⟨k1, k2⟩ := runW_le [(0, noteB (ps.length : Int) (q + 1))] r1.1
  replace k1 : (runW dsO r1.1 [(0, noteB (ps.length : Int) (q + 1))]).1.writes ≤ r1.1.writes + ((1 : Nat) : Int) := k1
  rcases runW_mid [(0, noteB (ps.length : Int) (q + 1))] [] r1.1 a2 (mid_calm a3 a4) (by show r1.1.writes + ((1 : Nat) : Int) < _; omega) (by rw [l2]; exact note_ok hn hI) with ⟨b1, b2, b3, b4, b5⟩ | ⟨b1, b2⟩
  rotate_left
  · rw [if_pos b1] at hce
    rw [hce]
    rw [List.nil_append] at b2
    obtain ⟨m1, m2, m3, m4, m5, m6⟩ := mid_crash b2 keep
    refine ⟨m3, m1, m2, m4.trans (k2.trans l2), by show (crashS (runW dsO r1.1 [(0, noteB (ps.length : Int) (q + 1))]).1 keep).writes ≤ _; omega, ?_⟩
    generalize crashS (runW dsO r1.1 [(0, noteB (ps.length : Int) (q + 1))]).1 keep = s2 at m6
    have hk : ∀ k, k ≠ 0 → secB s2 k = putAll (secB s) (logW s.size (q + 1) 0 ps) k := fun k h => by
      rw [← hs1]
      refine (m6 k).resolve_right fun e => ?_
      rw [List.mem_singleton] at e
      exact h (congrArg Prod.fst e)
    rcases m6 0 with e | e
    · refine .inl ⟨b1, oldc _ fun k => ?_⟩
      by_cases h : k = 0
      · subst h
        rw [e, hs1]
        exact .inl p2
      · rw [hk k h]
        exact putAll_or _ _ k
    · rw [List.mem_singleton] at e
      refine .inr ⟨⟨(Prod.mk.inj e).2, fun j p hj => ?_⟩, fun p hp => .inl ?_⟩
      · have hjl := (List.getElem?_eq_some_iff.1 hj).1
        rw [hk _ (by rw [(slot_range (n := s.size) (i := (j : Int)) (by omega)).1]; omega)]
        exact p1 j p hj
      · rw [hk _ (home_ne hp).1]
        exact p3 p hp
  rw [if_neg (by rw [b1]; decide)] at hce
  generalize runW dsO r1.1 [(0, noteB (ps.length : Int) (q + 1))] = r2 at b1 b2 b3 b4 b5 k1 k2 hce
  have hs2 : secB r2.1 = putAll (putAll (secB s) (logW s.size (q + 1) 0 ps)) [(0, noteB (ps.length : Int) (q + 1))] := by rw [← hs1]; exact funext b5
  obtain ⟨g1, g2⟩ := slots_put hI (secB s)
  rw [← hs2] at g1
  obtain ⟨j1, j2⟩ := runW_le (homW s.size (q + 1) ps) r2.1
  have hnew : New s.size (q + 1) ps (secB s) (secB r2.1) := ⟨g1, fun p hp => .inl (by rw [hs2]; exact g2 p hp)⟩
  have hX := cls_new (c0 := secB s) hn hI
  have hwh := slots_whole hI g1
  rw [hce]
  rcases runW_mid (homW s.size (q + 1) ps) [] r2.1 b2 (mid_calm b3 b4) (by omega) (by rw [k2, l2]; exact homW_ok hI) with ⟨c1, c2, c3, c4, c5⟩ | ⟨c1, c2⟩
  · obtain ⟨m1, m2, m3, m4, m5, m6⟩ := calm_crash c3 c4 keep
    refine ⟨m3, m1, m2, m4.trans (j2.trans (k2.trans l2)), by show (crashS (runW dsO r2.1 (homW s.size (q + 1) ps)).1 keep).writes ≤ _; omega, .inr (hX.ok _ _ hnew hwh _ fun k => ?_)⟩
    show secB (crashS (runW dsO r2.1 (homW s.size (q + 1) ps)).1 keep) k = _ ∨ _
    rw [m6, c5]
    exact putAll_or _ _ k
  · rw [List.nil_append] at c2
    obtain ⟨m1, m2, m3, m4, m5, m6⟩ := mid_crash c2 keep
    exact ⟨m3, m1, m2, m4.trans (j2.trans (k2.trans l2)), by show (crashS (runW dsO r2.1 (homW s.size (q + 1) ps)).1 keep).writes ≤ _; omega, .inr (hX.ok _ _ hnew hwh _ m6)⟩
theorem base_done {n q : Int} {ps : List (Int × List UInt8)} {c0 c : Int → List UInt8} (hn : 3 ≤ n) (hI : Ims n q ps) (h : Done n q ps c0 c) : Base n (ps.length : Int) q c := by
  refine ⟨rdN_note hn hI.note h.slots.mark, fun ws e => ?_⟩
  rw [slots_whole hI h.slots] at e
  cases e
  refine ⟨homW_ok hI, fun p hp => ?_⟩
  obtain ⟨x, hx, rfl⟩ := List.mem_map.1 hp
  exact h.yes x hx
/-- Pages with some of them otherwise. -/
def vw (ps : List (Int × List UInt8)) (g : Int → List UInt8) (p : Int) : List UInt8 := putAll g ps p
theorem pg_old {n q : Int} {c0 c : Int → List UInt8} (h : Old n q c0 c) {p : Int} (hp : isPg n p = true) : pgOf n c p = pgOf n c0 p := by unfold pgOf; rw [h.home p hp]
theorem pg_pack {n q : Int} {ps : List (Int × List UInt8)} {c : Int → List UInt8} (hI : Ims n q ps) {x : Int × List UInt8} (hx : x ∈ ps) (h : c (homeI n x.1) = packB x.1 q x.2) : pgOf n c x.1 = x.2 := by
  obtain ⟨_, u1, _, u3, u4⟩ := un_pack (hI.pack hx)
  unfold pgOf
  rw [h, u1, u3, u4, if_neg (by rintro (e | e) <;> exact e rfl)]
theorem pg_done {n q : Int} {ps : List (Int × List UInt8)} {c0 c : Int → List UInt8} (hI : Ims n q ps) (h : Done n q ps c0 c) {p : Int} (hp : isPg n p = true) : pgOf n c p = putAll (pgOf n c0) ps p := by
  by_cases e : ∃ x ∈ ps, x.1 = p
  · obtain ⟨x, hx, rfl⟩ := e
    rw [pg_pack hI hx (h.yes x hx)]
    exact (putAll_yes hI.nod hx _).symm
  · have hno : ∀ x ∈ ps, x.1 ≠ p := fun x hx e2 => e ⟨x, hx, e2⟩
    rw [putAll_no _ _ hno]
    unfold pgOf
    rw [h.no p hp hno]
theorem pg_len (n : Int) (c : Int → List UInt8) (p : Int) : (pgOf n c p).length = 240 := by
  unfold pgOf
  split
  · unfold zeros240; rw [List.length_replicate]
  · next h =>
    have h1 : unE (c (homeI n p)) = 0 := by
      cases e : decide (unE (c (homeI n p)) = 0) with
      | true => exact of_decide_eq_true e
      | false => exact absurd (.inl (of_decide_eq_false e)) h
    have hl := unE_len h1
    unfold unE at h1
    split at h1
    · next ho =>
      unfold unD
      rw [if_pos ho, List.length_drop, hl]
    · cases h1
end Go.Proofs.YtmpiggcooboenaaDoor.Al
/- The reference's log: mark, Format, Pages, Load. -/
namespace Go.Proofs.YtmpiggcooboenaaDoor.Al
open Go Go.Al Go.Proofs Go.RowKit
set_option maxHeartbeats 8000000
set_option maxRecDepth 100000
set_option linter.unusedVariables false
set_option linter.unusedSimpArgs false
theorem rk_cell {D : Heap} {b : Nat} {r : RS} (h : Rk D b r) : ∃ q, D b = some (rdO (.slice (some ⟨q, 0, none⟩) r.L.length r.L.length) r.turn r.done r.arm r.armed r.down) := by
  obtain ⟨_, q, os, G, hP⟩ := h
  refine ⟨q, ?_⟩
  have := hP.cell
  rw [hP.L, List.length_map]
  exact this
theorem rread_len {D : Heap} {b : Nat} {r : RS} (hD : Rk D b r) (i : Int) : (rreadL r i).length ≤ 256 := by
  obtain ⟨_, q, os, G, hP⟩ := hD
  unfold rreadL
  split
  · exact Nat.zero_le _
  unfold rsec
  split
  · next o ho =>
    have hm : o ∈ r.L := List.mem_of_getElem? ho
    rw [hP.L] at hm
    obtain ⟨x, hx, rfl⟩ := List.mem_map.1 hm
    have := (hP.ok x hx).ln
    unfold fullB
    rw [List.length_append, List.length_replicate]
    show x.l.length + (256 - x.l.length) ≤ 256
    omega
  · exact Nat.zero_le _
theorem rmark {D F : Heap} {b : Nat} {r : RS} (hE : Ext D F) (hD : Rk D b r) (n q : Int) (hw : r.done + 1 < 1000000000) :
    FnK Tryd.prog 78 #[.pointer (some ⟨b, 0, none⟩), .int .i64 n, .int .i64 q] F (fun v F' => v = .int .i64 (runW rsO r [(0, noteB n q)]).2 ∧ ∃ D', Moves D F D' F' ∧ Rk D' b (runW rsO r [(0, noteB n q)]).1) := by
  have h1 := fun A c F h => rpack n q (List.replicate 240 0) A c F h (by rw [List.length_replicate]; decide)
  have hnl : (noteB n q).length ≤ 900000 := by
    have := packB_le n q (List.replicate 240 0)
    show (packB n q (List.replicate 240 0)).length ≤ _
    omega
  have hM : runW rsO r [(0, noteB n q)] = if rwriteE r 0 (noteB n q) = 0 then (rflushS (rwriteS r 0 (noteB n q)), if (rwriteS r 0 (noteB n q)).down = true then 5 else 0) else (rwriteS r 0 (noteB n q), rwriteE r 0 (noteB n q)) := rfl
  generalize runW rsO r [(0, noteB n q)] = ms at hM
  have hnb : noteB n q = packB n q (List.replicate 240 0) := rfl
  rw [← hnb] at h1
  clear hnb
  generalize noteB n q = nb at h1 hM hnl
  generalize packE n q (List.replicate 240 0) = e at h1
  (refine fn_walk tab_ok Tryd.func78 rfl rfl rfl rfl ?_; (conv => whnf))
  refine make_one tab_ok (z0 := .int .u8 0) 240 240 rfl rfl rfl rfl rfl ⟨rfl, by decide, _, rfl, rfl⟩ (by decide) (by decide) fun g h0_g => ?_
  have hE_g := Ext.new h0_g (.cells (List.replicate 240 (Value.int .u8 0)).toArray 5)
  have hB_g := Heap.put_same F g (.cells (List.replicate 240 (Value.int .u8 0)).toArray 5)
  generalize F.put g _ = F1 at hE_g hB_g ⊢
  have hrow : RowAt F1 (some ⟨g, 0, none⟩) (bytesOf (List.replicate 240 0)) := by
    have := row_blk hB_g
    rw [List.toList_toArray, zeros_bytes] at this
    exact this
  ((conv => whnf); repeat (first | (apply load_at; (conv => lhs; whnf); (with_reducible assumption); rfl; (conv => whnf)) | (apply load_at; (conv => lhs; rw [add_plain, add_plain]); (with_reducible assumption); rfl; (conv => whnf)) | (apply loads_at; (conv => lhs; whnf); (with_reducible assumption); rfl; (conv => whnf)) | (refine ⟨⟨by omega, by omega⟩, ?_⟩; (conv => whnf))))
  refine call_of (h1 (some ⟨g, 0, none⟩) 240 F1 hrow) ?_
  rintro v F2 ⟨w, rfl, ⟨A, c, rfl, hc, hr, hf⟩, hE2⟩
  have hE02 := hE_g.trans hE2
  have hR := newH_ext F F2
  have hA : Apart D (newH F F2) := newH_apart F2 hE
  have hrR := newH_row hr fun a ha => hE_g.none (hf a ha)
  ((conv => whnf); repeat (first | (apply load_at; (conv => lhs; whnf); (with_reducible assumption); rfl; (conv => whnf)) | (apply load_at; (conv => lhs; rw [add_plain, add_plain]); (with_reducible assumption); rfl; (conv => whnf)) | (apply loads_at; (conv => lhs; whnf); (with_reducible assumption); rfl; (conv => whnf)) | (refine ⟨⟨by omega, by omega⟩, ?_⟩; (conv => whnf))))
  refine call_of (rwrite (hE.trans hE02) hD hR hA nb A c hrR hnl 0 (by omega)) ?_
  rintro v F3 ⟨rfl, D3, hM3, hD3⟩
  have hM03 := (Moves.ext hE hE02).trans hM3
  generalize rwriteS r 0 nb = r1 at hM hD3
  generalize rwriteE r 0 nb = e1 at hM ⊢
  refine short [0, 19] [.pointer (some ⟨b, 0, none⟩), .int .i64 e1] rfl fun ρ => ?_
  ((conv => whnf); repeat (first | (apply load_at; (conv => lhs; whnf); (with_reducible assumption); rfl; (conv => whnf)) | (apply load_at; (conv => lhs; rw [add_plain, add_plain]); (with_reducible assumption); rfl; (conv => whnf)) | (apply loads_at; (conv => lhs; whnf); (with_reducible assumption); rfl; (conv => whnf)) | (refine ⟨⟨by omega, by omega⟩, ?_⟩; (conv => whnf))))
  refine cond_split (fun h => ?_) (fun h => ?_)
  · have he : ¬ e1 = 0 := by
      have h : (e1 != 0) = true := h
      simpa using h
    rw [if_neg he] at hM
    subst hM
    ((conv => whnf); repeat (first | (apply load_at; (conv => lhs; whnf); (with_reducible assumption); rfl; (conv => whnf)) | (apply load_at; (conv => lhs; rw [add_plain, add_plain]); (with_reducible assumption); rfl; (conv => whnf)) | (apply loads_at; (conv => lhs; whnf); (with_reducible assumption); rfl; (conv => whnf)) | (refine ⟨⟨by omega, by omega⟩, ?_⟩; (conv => whnf))))
    exact ⟨rfl, D3, hM03, hD3⟩
  · have he : e1 = 0 := by
      have h : (e1 != 0) = false := h
      simpa using h
    rw [if_pos he] at hM
    subst hM
    ((conv => whnf); repeat (first | (apply load_at; (conv => lhs; whnf); (with_reducible assumption); rfl; (conv => whnf)) | (apply load_at; (conv => lhs; rw [add_plain, add_plain]); (with_reducible assumption); rfl; (conv => whnf)) | (apply loads_at; (conv => lhs; whnf); (with_reducible assumption); rfl; (conv => whnf)) | (refine ⟨⟨by omega, by omega⟩, ?_⟩; (conv => whnf))))
    refine call_of (rflush hM3.inn hD3) ?_
    rintro v F4 ⟨rfl, D4, hM4, hD4⟩
    ((conv => whnf); repeat (first | (apply load_at; (conv => lhs; whnf); (with_reducible assumption); rfl; (conv => whnf)) | (apply load_at; (conv => lhs; rw [add_plain, add_plain]); (with_reducible assumption); rfl; (conv => whnf)) | (apply loads_at; (conv => lhs; whnf); (with_reducible assumption); rfl; (conv => whnf)) | (refine ⟨⟨by omega, by omega⟩, ?_⟩; (conv => whnf))))
    exact ⟨rfl, D4, hM03.trans hM4, hD4⟩
theorem rformat {D F : Heap} {b : Nat} {r : RS} (hE : Ext D F) (hD : Rk D b r) (hw : r.done + 1 < 1000000000) :
    FnK Tryd.prog 35 #[.pointer (some ⟨b, 0, none⟩)] F (fun v F' => v = .int .i64 (runW rsO r [(0, noteB 0 1)]).2 ∧ ∃ D', Moves D F D' F' ∧ Rk D' b (runW rsO r [(0, noteB 0 1)]).1) := by
  have h1 := rmark hE hD 0 1 hw
  generalize runW rsO r [(0, noteB 0 1)] = ms at h1
  (refine fn_walk tab_ok Tryd.func35 rfl rfl rfl rfl ?_; (conv => whnf))
  refine call_of h1 ?_
  rintro v F1 ⟨rfl, D', hM, hD'⟩
  ((conv => whnf); repeat (first | (apply load_at; (conv => lhs; whnf); (with_reducible assumption); rfl; (conv => whnf)) | (apply load_at; (conv => lhs; rw [add_plain, add_plain]); (with_reducible assumption); rfl; (conv => whnf)) | (apply loads_at; (conv => lhs; whnf); (with_reducible assumption); rfl; (conv => whnf)) | (refine ⟨⟨by omega, by omega⟩, ?_⟩; (conv => whnf))))
  exact ⟨rfl, D', hM, hD'⟩
abbrev rgO (b : Nat) (q : Int) : Obj := .cells #[.pointer (some ⟨b, 0, none⟩), .int .i64 q] 84
theorem rgPages {D F : Heap} {b lb : Nat} {r : RS} {q : Int} (hE : Ext D F) (hD : Rk D b r) (h : F lb = some (rgO b q)) : FnK Tryd.prog 84 #[.pointer (some ⟨lb, 0, none⟩)] F (fun v F' => v = .int .i64 (pagesN (r.L.length : Int)) ∧ F' = F) := by
  obtain ⟨q', hb⟩ := rk_cell hD
  replace hb := hE _ _ hb
  have h3 := rpages (r.L.length : Int) F
  (refine fn_walk tab_ok Tryd.func84 rfl rfl rfl rfl ?_; (conv => whnf))
  ((conv => whnf); repeat (first | (apply load_at; (conv => lhs; whnf); (with_reducible assumption); rfl; (conv => whnf)) | (apply load_at; (conv => lhs; rw [add_plain, add_plain]); (with_reducible assumption); rfl; (conv => whnf)) | (apply loads_at; (conv => lhs; whnf); (with_reducible assumption); rfl; (conv => whnf)) | (refine ⟨⟨by omega, by omega⟩, ?_⟩; (conv => whnf))))
  refine call_of h3 ?_
  rintro v F ⟨rfl, rfl⟩
  ((conv => whnf); repeat (first | (apply load_at; (conv => lhs; whnf); (with_reducible assumption); rfl; (conv => whnf)) | (apply load_at; (conv => lhs; rw [add_plain, add_plain]); (with_reducible assumption); rfl; (conv => whnf)) | (apply loads_at; (conv => lhs; whnf); (with_reducible assumption); rfl; (conv => whnf)) | (refine ⟨⟨by omega, by omega⟩, ?_⟩; (conv => whnf))))
  exact ⟨rfl, rfl⟩
theorem rgLoad {D F : Heap} {b lb : Nat} {r : RS} {q : Int} (hE : Ext D F) (hD : Rk D b r) (h : F lb = some (rgO b q)) (p : Int) :
    FnK Tryd.prog 40 #[.pointer (some ⟨lb, 0, none⟩), .int .i64 p] F (fun v F' => ∃ u, v = .tuple #[u, .int .i64 (loadE rsO r p)] ∧ NewRow F F' u (loadL rsO r p) ∧ Ext F F') := by
  obtain ⟨q', hb⟩ := rk_cell hD
  replace hb := hE _ _ hb
  have k2 := rhome (r.L.length : Int) p
  have k3 := fun F hE => rread (F := F) hE hD (homeI (r.L.length : Int) p)
  have hl := rread_len hD (homeI (r.L.length : Int) p)
  have k4 := fun A c F hr hc => runpack (rreadL r (homeI (r.L.length : Int) p)) A c F hr (by omega) hc
  have hLE : loadE rsO r p = if isPg (r.L.length : Int) p = true then rreadE r (homeI (r.L.length : Int) p) else 1 := rfl
  have hLL : loadL rsO r p = if isPg (r.L.length : Int) p = true then (if rreadE r (homeI (r.L.length : Int) p) ≠ 0 then [] else if unE (rreadL r (homeI (r.L.length : Int) p)) ≠ 0 ∨ unP (rreadL r (homeI (r.L.length : Int) p)) ≠ p then zeros240 else unD (rreadL r (homeI (r.L.length : Int) p))) else [] := rfl
  generalize loadE rsO r p = le at hLE
  generalize loadL rsO r p = ll at hLL
  generalize homeI (r.L.length : Int) p = hm at k2 k3 hl k4 hLE hLL
  generalize unP (rreadL r hm) = up at k4 hLL
  generalize unQ (rreadL r hm) = uq at k4
  generalize unE (rreadL r hm) = ue at k4 hLL
  generalize unD (rreadL r hm) = ud at k4 hLL
  generalize rreadL r hm = l at k3 k4 hl
  generalize rreadE r hm = re at k3 hLE hLL
  generalize isPg (r.L.length : Int) p = z at k2 hLE hLL
  (refine fn_walk tab_ok Tryd.func40 rfl rfl rfl rfl ?_; (conv => whnf))
  ((conv => whnf); repeat (first | (apply load_at; (conv => lhs; whnf); (with_reducible assumption); rfl; (conv => whnf)) | (apply load_at; (conv => lhs; rw [add_plain, add_plain]); (with_reducible assumption); rfl; (conv => whnf)) | (apply loads_at; (conv => lhs; whnf); (with_reducible assumption); rfl; (conv => whnf)) | (refine ⟨⟨by omega, by omega⟩, ?_⟩; (conv => whnf))))
  refine call_of (k2 F) ?_
  rintro v F ⟨rfl, rfl⟩
  refine short [0, 1, 24] [.pointer (some ⟨lb, 0, none⟩), .int .i64 p, .tuple #[.int .i64 hm, .bool z]] rfl fun ρ => ?_
  cases z with
  | false =>
    rw [if_neg (by decide)] at hLE hLL
    subst hLE hLL
    ((conv => whnf); repeat (first | (apply load_at; (conv => lhs; whnf); (with_reducible assumption); rfl; (conv => whnf)) | (apply load_at; (conv => lhs; rw [add_plain, add_plain]); (with_reducible assumption); rfl; (conv => whnf)) | (apply loads_at; (conv => lhs; whnf); (with_reducible assumption); rfl; (conv => whnf)) | (refine ⟨⟨by omega, by omega⟩, ?_⟩; (conv => whnf))))
    exact ⟨_, rfl, newRow_nil' _ _, Ext.refl _⟩
  | true =>
  rw [if_pos rfl] at hLE hLL
  ((conv => whnf); repeat (first | (apply load_at; (conv => lhs; whnf); (with_reducible assumption); rfl; (conv => whnf)) | (apply load_at; (conv => lhs; rw [add_plain, add_plain]); (with_reducible assumption); rfl; (conv => whnf)) | (apply loads_at; (conv => lhs; whnf); (with_reducible assumption); rfl; (conv => whnf)) | (refine ⟨⟨by omega, by omega⟩, ?_⟩; (conv => whnf))))
  refine call_of (k3 F hE) ?_
  rintro v F2 ⟨w, rfl, ⟨A, c, rfl, hc, hr, hf⟩, hE2⟩
  refine short [0, 1, 35] [.pointer (some ⟨lb, 0, none⟩), .int .i64 p, .tuple #[.slice A l.length c, .int .i64 re]] rfl fun ρ => ?_
  ((conv => whnf); repeat (first | (apply load_at; (conv => lhs; whnf); (with_reducible assumption); rfl; (conv => whnf)) | (apply load_at; (conv => lhs; rw [add_plain, add_plain]); (with_reducible assumption); rfl; (conv => whnf)) | (apply loads_at; (conv => lhs; whnf); (with_reducible assumption); rfl; (conv => whnf)) | (refine ⟨⟨by omega, by omega⟩, ?_⟩; (conv => whnf))))
  refine cond_split (fun h => ?_) (fun h => ?_)
  · have he : re ≠ 0 := by
      have h : (re != 0) = true := h
      simpa using h
    rw [if_pos he] at hLL
    subst hLE hLL
    ((conv => whnf); repeat (first | (apply load_at; (conv => lhs; whnf); (with_reducible assumption); rfl; (conv => whnf)) | (apply load_at; (conv => lhs; rw [add_plain, add_plain]); (with_reducible assumption); rfl; (conv => whnf)) | (apply loads_at; (conv => lhs; whnf); (with_reducible assumption); rfl; (conv => whnf)) | (refine ⟨⟨by omega, by omega⟩, ?_⟩; (conv => whnf))))
    exact ⟨_, rfl, newRow_nil' _ _, hE2⟩
  have he : ¬ re ≠ 0 := by
    have h : (re != 0) = false := h
    simpa using h
  rw [if_neg he] at hLL
  have he0 : le = 0 := by omega
  clear h
  ((conv => whnf); repeat (first | (apply load_at; (conv => lhs; whnf); (with_reducible assumption); rfl; (conv => whnf)) | (apply load_at; (conv => lhs; rw [add_plain, add_plain]); (with_reducible assumption); rfl; (conv => whnf)) | (apply loads_at; (conv => lhs; whnf); (with_reducible assumption); rfl; (conv => whnf)) | (refine ⟨⟨by omega, by omega⟩, ?_⟩; (conv => whnf))))
  refine call_of (k4 A c F2 hr hc) ?_
  rintro v F3 ⟨w, rfl, hw, hE3⟩
  have hE03 := hE2.trans hE3
  subst he0
  clear hLE he
  refine short [0, 1, 43] [.pointer (some ⟨lb, 0, none⟩), .int .i64 p, .tuple #[.int .i64 up, .int .i64 uq, w, .int .i64 ue]] rfl fun ρ => ?_
  have zz : (ue ≠ 0 ∨ up ≠ p) → ∀ (G : Heap) (g : Nat), F3 g = none → G = F3.put g (.cells (List.replicate 240 (Value.int .u8 0)).toArray 5) → NewRow F G (.slice (some ⟨g, 0, none⟩) 240 240) ll ∧ Ext F G := by
    intro hh G g hg e
    rw [if_pos hh] at hLL
    subst hLL e
    refine ⟨⟨some ⟨g, 0, none⟩, 240, rfl, Nat.le_refl _, ?_, fun a ha => ?_⟩, hE03.trans (Ext.new hg _)⟩
    · have := row_blk (Heap.put_same F3 g (.cells (List.replicate 240 (Value.int .u8 0)).toArray 5))
      rw [List.toList_toArray, zeros_bytes] at this
      exact this
    · injection ha with ha
      subst ha
      exact hE03.none hg
  ((conv => whnf); repeat (first | (apply load_at; (conv => lhs; whnf); (with_reducible assumption); rfl; (conv => whnf)) | (apply load_at; (conv => lhs; rw [add_plain, add_plain]); (with_reducible assumption); rfl; (conv => whnf)) | (apply loads_at; (conv => lhs; whnf); (with_reducible assumption); rfl; (conv => whnf)) | (refine ⟨⟨by omega, by omega⟩, ?_⟩; (conv => whnf))))
  refine cond_split (fun h => ?_) (fun h => ?_)
  · have hu : (ue == 0) = true := by
      have h : (!(ue != 0)) = true := h
      simpa using h
    have hu0 : ue = 0 := by simpa using hu
    clear h
    ((conv => whnf); repeat (first | (apply load_at; (conv => lhs; whnf); (with_reducible assumption); rfl; (conv => whnf)) | (apply load_at; (conv => lhs; rw [add_plain, add_plain]); (with_reducible assumption); rfl; (conv => whnf)) | (apply loads_at; (conv => lhs; whnf); (with_reducible assumption); rfl; (conv => whnf)) | (refine ⟨⟨by omega, by omega⟩, ?_⟩; (conv => whnf))))
    refine cond_split (fun h => ?_) (fun h => ?_)
    · have hp : up ≠ p := by
        have h : (up != p) = true := h
        simpa using h
      ((conv => whnf); repeat (first | (apply load_at; (conv => lhs; whnf); (with_reducible assumption); rfl; (conv => whnf)) | (apply load_at; (conv => lhs; rw [add_plain, add_plain]); (with_reducible assumption); rfl; (conv => whnf)) | (apply loads_at; (conv => lhs; whnf); (with_reducible assumption); rfl; (conv => whnf)) | (refine ⟨⟨by omega, by omega⟩, ?_⟩; (conv => whnf))))
      refine make_one tab_ok (z0 := .int .u8 0) 240 240 rfl rfl rfl rfl rfl ⟨rfl, by decide, _, rfl, rfl⟩ (by decide) (by decide) fun g h0_g => ?_
      obtain ⟨zr, zE⟩ := zz (.inr hp) _ g h0_g rfl
      generalize F3.put g _ = F4 at zr zE ⊢
      ((conv => whnf); repeat (first | (apply load_at; (conv => lhs; whnf); (with_reducible assumption); rfl; (conv => whnf)) | (apply load_at; (conv => lhs; rw [add_plain, add_plain]); (with_reducible assumption); rfl; (conv => whnf)) | (apply loads_at; (conv => lhs; whnf); (with_reducible assumption); rfl; (conv => whnf)) | (refine ⟨⟨by omega, by omega⟩, ?_⟩; (conv => whnf))))
      exact ⟨_, rfl, zr, zE⟩
    · have hp : ¬ up ≠ p := by
        have h : (up != p) = false := h
        simpa using h
      rw [if_neg (by rintro (e | e); exact e hu0; exact hp e)] at hLL
      subst hLL
      ((conv => whnf); repeat (first | (apply load_at; (conv => lhs; whnf); (with_reducible assumption); rfl; (conv => whnf)) | (apply load_at; (conv => lhs; rw [add_plain, add_plain]); (with_reducible assumption); rfl; (conv => whnf)) | (apply loads_at; (conv => lhs; whnf); (with_reducible assumption); rfl; (conv => whnf)) | (refine ⟨⟨by omega, by omega⟩, ?_⟩; (conv => whnf))))
      obtain ⟨A', c', rfl, g1, g2, g3⟩ := hw
      exact ⟨_, rfl, ⟨A', c', rfl, g1, g2, fun a ha => hE2.none (g3 a ha)⟩, hE03⟩
  · have hu : ue ≠ 0 := by
      have h : (!(ue != 0)) = false := h
      simpa using h
    ((conv => whnf); repeat (first | (apply load_at; (conv => lhs; whnf); (with_reducible assumption); rfl; (conv => whnf)) | (apply load_at; (conv => lhs; rw [add_plain, add_plain]); (with_reducible assumption); rfl; (conv => whnf)) | (apply loads_at; (conv => lhs; whnf); (with_reducible assumption); rfl; (conv => whnf)) | (refine ⟨⟨by omega, by omega⟩, ?_⟩; (conv => whnf))))
    refine make_one tab_ok (z0 := .int .u8 0) 240 240 rfl rfl rfl rfl rfl ⟨rfl, by decide, _, rfl, rfl⟩ (by decide) (by decide) fun g h0_g => ?_
    obtain ⟨zr, zE⟩ := zz (.inl hu) _ g h0_g rfl
    generalize F3.put g _ = F4 at zr zE ⊢
    ((conv => whnf); repeat (first | (apply load_at; (conv => lhs; whnf); (with_reducible assumption); rfl; (conv => whnf)) | (apply load_at; (conv => lhs; rw [add_plain, add_plain]); (with_reducible assumption); rfl; (conv => whnf)) | (apply loads_at; (conv => lhs; whnf); (with_reducible assumption); rfl; (conv => whnf)) | (refine ⟨⟨by omega, by omega⟩, ?_⟩; (conv => whnf))))
    exact ⟨_, rfl, zr, zE⟩
end Go.Proofs.YtmpiggcooboenaaDoor.Al
/- The reference's log: homes. -/
namespace Go.Proofs.YtmpiggcooboenaaDoor.Al
open Go Go.Al Go.Proofs Go.RowKit
set_option maxHeartbeats 8000000
set_option maxRecDepth 100000
set_option linter.unusedVariables false
set_option linter.unusedSimpArgs false
theorem rw_le (r : RS) (i : Int) (l : List UInt8) : (rwriteS r i l).done ≤ r.done + 1 ∧ (rwriteS r i l).L.length = r.L.length := by
  unfold rwriteS
  split
  · exact ⟨by omega, rfl⟩
  split
  · exact ⟨by show r.done ≤ _; omega, rfl⟩
  · split
    · exact ⟨Int.le_refl _, List.length_set⟩
    · exact ⟨by omega, rfl⟩
theorem rf_le (r : RS) : (rflushS r).done = r.done ∧ (rflushS r).L.length = r.L.length := by
  unfold rflushS
  split
  · exact ⟨rfl, rfl⟩
  · exact ⟨rfl, List.length_map _⟩
theorem rrun_le : ∀ (ps : List (Int × List UInt8)) (r : RS), (runW rsO r ps).1.done ≤ r.done + ps.length ∧ (runW rsO r ps).1.L.length = r.L.length
  | [], r => by
    obtain ⟨h1, h2⟩ := rf_le r
    exact ⟨by show (rflushS r).done ≤ r.done + ((0 : Nat) : Int); omega, h2⟩
  | p :: ps, r => by
    rw [runW_cons]
    obtain ⟨h1, h2⟩ := rw_le r p.1 p.2
    split
    · obtain ⟨h3, h4⟩ := rrun_le ps (rsO.wrS r p.1 p.2)
      replace h3 : (runW rsO (rwriteS r p.1 p.2) ps).1.done ≤ (rwriteS r p.1 p.2).done + ps.length := h3
      replace h4 : (runW rsO (rwriteS r p.1 p.2) ps).1.L.length = (rwriteS r p.1 p.2).L.length := h4
      refine ⟨?_, h4.trans h2⟩
      show (runW rsO (rwriteS r p.1 p.2) ps).1.done ≤ r.done + ((ps.length + 1 : Nat) : Int)
      omega
    · refine ⟨?_, h2⟩
      show (rwriteS r p.1 p.2).done ≤ r.done + ((ps.length + 1 : Nat) : Int)
      omega
/-- A sector with its page. -/
structure RpR where
  pg : Int
  l : List UInt8
  A : Option Addr
  c : Nat
def rbV (p : RpR) : Value := .slice p.A p.l.length p.c
def riV (p : RpR) : Value := .int .i64 p.pg
def rhW (n : Int) (p : RpR) : Int × List UInt8 := (homeI n p.pg, p.l)
structure RpOk (G : Heap) (p : RpR) : Prop where
  row : RowAt G p.A (bytesOf p.l)
  len : p.l.length ≤ 900000
theorem RpOk.mono {F G : Heap} {p : RpR} (h : RpOk F p) (hE : Ext F G) : RpOk G p := ⟨h.row.mono hE, h.len⟩
theorem one_cell {F : Heap} {ad : Addr} {vs : List Value} {j : Nat} {v : Value} (hr : RowAt F (some ad) vs) (hj : vs[j]? = some v) : F.cell? (ad.add (Int.toNat (j : Int) * 1)) = some v := by
  rw [Int.toNat_natCast, Nat.mul_one]
  exact hr.cell hj
theorem rhomes {D F R : Heap} {b : Nat} {r : RS} (hE : Ext D F) (hD : Rk D b r) (hR : Ext R F) (hA : Apart D R) (rs : List RpR) (A1 A2 : Option Addr) (c1 c2 : Nat) (hr1 : RowAt R A1 (rs.map rbV)) (hr2 : RowAt R A2 (rs.map riV)) (hp : ∀ p ∈ rs, RpOk R p) (hl : rs.length ≤ 100000) (hw : r.done + rs.length < 1000000000) :
    FnK Tryd.prog 81 #[.pointer (some ⟨b, 0, none⟩), .slice A1 rs.length c1, .slice A2 rs.length c2] F (fun v F' => v = .int .i64 (runW rsO r (rs.map (rhW (r.L.length : Int)))).2 ∧ ∃ D', Moves D F D' F' ∧ Rk D' b (runW rsO r (rs.map (rhW (r.L.length : Int)))).1) := by
  obtain ⟨res, hres⟩ : ∃ q, q = runW rsO r (rs.map (rhW (r.L.length : Int))) := ⟨_, rfl⟩
  obtain ⟨N, hN⟩ : ∃ N, N = r.L.length := ⟨_, rfl⟩
  rw [← hres]
  rw [← hN] at hres
  (refine fn_walk tab_ok Tryd.func81 rfl rfl rfl rfl ?_; (conv => whnf))
  refine loop_slots [0, 1, 2, 7] (fun k vs F' => ∃ (i : Nat) (s1 : RS) (D1 : Heap), i + k = rs.length ∧ vs = [.pointer (some ⟨b, 0, none⟩), .slice A1 rs.length c1, .slice A2 rs.length c2, .int .i64 (i : Int)] ∧ Moves D F D1 F' ∧ Rk D1 b s1 ∧ s1.done + k < 1000000000 ∧ s1.L.length = N ∧ res = runW rsO s1 ((rs.drop i).map (rhW (N : Int)))) rs.length ⟨0, r, D, by omega, rfl, Moves.refl hE, hD, hw, hN.symm, hres⟩ ?_
  rintro k vs F1 ρ ⟨i, s1, D1, hik, rfl, hM, hD1, hw1, hn1, hrs⟩
  have hR1 := hM.keep hR hA
  have hA1 := hM.apart hR hA
  ((conv => whnf); repeat (first | (apply load_at; (conv => lhs; whnf); (with_reducible assumption); rfl; (conv => whnf)) | (apply load_at; (conv => lhs; rw [add_plain, add_plain]); (with_reducible assumption); rfl; (conv => whnf)) | (apply loads_at; (conv => lhs; whnf); (with_reducible assumption); rfl; (conv => whnf)) | (refine ⟨⟨by omega, by omega⟩, ?_⟩; (conv => whnf))))
  refine cond_split (fun h => ?_) (fun h => ?_)
  · have hi : i < rs.length := by
      have h : decide ((i : Int) < (rs.length : Int)) = true := h
      have := of_decide_eq_true h
      omega
    obtain ⟨ad1, rfl⟩ := hr1.some (by rw [List.length_map]; omega)
    obtain ⟨ad2, rfl⟩ := hr2.some (by rw [List.length_map]; omega)
    have hx : rs[i]? = some rs[i] := List.getElem?_eq_getElem hi
    have hok := (hp _ (List.getElem_mem hi)).mono hR1
    have hokR := hp _ (List.getElem_mem hi)
    rw [List.drop_eq_getElem_cons hi, List.map_cons, runW_cons] at hrs
    have h1 := one_cell (hr1.mono hR1) (v := rbV rs[i]) (by rw [List.getElem?_map, hx]; rfl)
    have h2 := one_cell (hr2.mono hR1) (v := riV rs[i]) (by rw [List.getElem?_map, hx]; rfl)
    generalize rs[i] = p at hok hokR hrs h1 h2
    obtain ⟨pg, pl, pA, pc⟩ := p
    have h1 : F1.cell? (ad1.add (Int.toNat (i : Int) * 1)) = some (.slice pA pl.length pc) := h1
    have h2 : F1.cell? (ad2.add (Int.toNat (i : Int) * 1)) = some (.int .i64 pg) := h2
    obtain ⟨q', hb⟩ := rk_cell hD1
    replace hb := hM.inn _ _ hb
    rw [hn1] at hb
    have kh := rhome (N : Int) pg
    obtain ⟨hle, hln⟩ := rw_le s1 (homeI (N : Int) pg) pl
    replace hrs : res = if rwriteE s1 (homeI (N : Int) pg) pl = 0 then runW rsO (rwriteS s1 (homeI (N : Int) pg) pl) ((rs.drop (i + 1)).map (rhW (N : Int))) else (rwriteS s1 (homeI (N : Int) pg) pl, rwriteE s1 (homeI (N : Int) pg) pl) := hrs
    generalize homeI (N : Int) pg = hm at kh hrs hle hln
    generalize isPg (N : Int) pg = z at kh
    have kw := fun F (hE : Ext D1 F) (hR : Ext R F) => rwrite hE hD1 hR hA1 pl pA pc hokR.row hok.len hm (by omega)
    generalize rwriteS s1 hm pl = s2 at hrs hle hln kw
    generalize rwriteE s1 hm pl = e2 at hrs kw
    ((conv => whnf); repeat (first | (apply load_at; (conv => lhs; whnf); (with_reducible assumption); rfl; (conv => whnf)) | (apply load_at; (conv => lhs; rw [add_plain, add_plain]); (with_reducible assumption); rfl; (conv => whnf)) | (apply loads_at; (conv => lhs; whnf); (with_reducible assumption); rfl; (conv => whnf)) | (refine ⟨⟨by omega, by omega⟩, ?_⟩; (conv => whnf))))
    refine draw_tree tab_ok (by kernel_rfl) [] (DT.row [0, 1, 2, 3, 4, 5, 6, 7, 8, 9, 10, 11, 12, 13, 14] .nil) (by kernel_rfl) ?_
    ((conv => whnf); repeat (first | (apply load_at; (conv => lhs; whnf); (with_reducible assumption); rfl; (conv => whnf)) | (apply load_at; (conv => lhs; rw [add_plain, add_plain]); (with_reducible assumption); rfl; (conv => whnf)) | (apply loads_at; (conv => lhs; whnf); (with_reducible assumption); rfl; (conv => whnf)) | (refine ⟨⟨by omega, by omega⟩, ?_⟩; (conv => whnf))))
    refine load_step h2 ?_
    ((conv => whnf); repeat (first | (apply load_at; (conv => lhs; whnf); (with_reducible assumption); rfl; (conv => whnf)) | (apply load_at; (conv => lhs; rw [add_plain, add_plain]); (with_reducible assumption); rfl; (conv => whnf)) | (apply loads_at; (conv => lhs; whnf); (with_reducible assumption); rfl; (conv => whnf)) | (refine ⟨⟨by omega, by omega⟩, ?_⟩; (conv => whnf))))
    refine call_of (kh F1) ?_
    rintro v F1 ⟨rfl, rfl⟩
    refine ⟨Ext.refl _, ?_⟩
    ((conv => whnf); repeat (first | (apply load_at; (conv => lhs; whnf); (with_reducible assumption); rfl; (conv => whnf)) | (apply load_at; (conv => lhs; rw [add_plain, add_plain]); (with_reducible assumption); rfl; (conv => whnf)) | (apply loads_at; (conv => lhs; whnf); (with_reducible assumption); rfl; (conv => whnf)) | (refine ⟨⟨by omega, by omega⟩, ?_⟩; (conv => whnf))))
    refine load_step h1 ?_
    ((conv => whnf); repeat (first | (apply load_at; (conv => lhs; whnf); (with_reducible assumption); rfl; (conv => whnf)) | (apply load_at; (conv => lhs; rw [add_plain, add_plain]); (with_reducible assumption); rfl; (conv => whnf)) | (apply loads_at; (conv => lhs; whnf); (with_reducible assumption); rfl; (conv => whnf)) | (refine ⟨⟨by omega, by omega⟩, ?_⟩; (conv => whnf))))
    refine call_of (kw F1 hM.inn hR1) ?_
    rintro v F4 ⟨rfl, D2, hM4, hD2⟩
    have hM5 := hM.trans hM4
    refine short [0, 1, 2, 7, 36] [.pointer (some ⟨b, 0, none⟩), .slice (some ad1) rs.length c1, .slice (some ad2) rs.length c2, .int .i64 (i : Int), .int .i64 e2] rfl fun ρ => ?_
    ((conv => whnf); repeat (first | (apply load_at; (conv => lhs; whnf); (with_reducible assumption); rfl; (conv => whnf)) | (apply load_at; (conv => lhs; rw [add_plain, add_plain]); (with_reducible assumption); rfl; (conv => whnf)) | (apply loads_at; (conv => lhs; whnf); (with_reducible assumption); rfl; (conv => whnf)) | (refine ⟨⟨by omega, by omega⟩, ?_⟩; (conv => whnf))))
    refine cond_split (fun h => ?_) (fun h => ?_)
    · have he : ¬ e2 = 0 := by
        have h : (e2 != 0) = true := h
        simpa using h
      rw [if_neg he] at hrs
      rw [hrs]
      ((conv => whnf); repeat (first | (apply load_at; (conv => lhs; whnf); (with_reducible assumption); rfl; (conv => whnf)) | (apply load_at; (conv => lhs; rw [add_plain, add_plain]); (with_reducible assumption); rfl; (conv => whnf)) | (apply loads_at; (conv => lhs; whnf); (with_reducible assumption); rfl; (conv => whnf)) | (refine ⟨⟨by omega, by omega⟩, ?_⟩; (conv => whnf))))
      exact ⟨rfl, D2, hM5, hD2⟩
    · have he : e2 = 0 := by
        have h : (e2 != 0) = false := h
        simpa using h
      rw [if_pos he] at hrs
      ((conv => whnf); repeat (first | (apply load_at; (conv => lhs; whnf); (with_reducible assumption); rfl; (conv => whnf)) | (apply load_at; (conv => lhs; rw [add_plain, add_plain]); (with_reducible assumption); rfl; (conv => whnf)) | (apply loads_at; (conv => lhs; whnf); (with_reducible assumption); rfl; (conv => whnf)) | (refine ⟨⟨by omega, by omega⟩, ?_⟩; (conv => whnf))))
      refine ⟨k - 1, by omega, i + 1, s2, D2, by omega, ?_, hM5, hD2, by omega, hln.trans hn1, hrs⟩
      rw [← wrap_succ (j := i) (by omega)]
      rfl
  · have hi : i = rs.length := by have := of_decide_eq_false h; omega
    subst hi
    rw [List.drop_length] at hrs
    ((conv => whnf); repeat (first | (apply load_at; (conv => lhs; whnf); (with_reducible assumption); rfl; (conv => whnf)) | (apply load_at; (conv => lhs; rw [add_plain, add_plain]); (with_reducible assumption); rfl; (conv => whnf)) | (apply loads_at; (conv => lhs; whnf); (with_reducible assumption); rfl; (conv => whnf)) | (refine ⟨⟨by omega, by omega⟩, ?_⟩; (conv => whnf))))
    refine call_of (rflush hM.inn hD1) ?_
    rintro v F4 ⟨rfl, D2, hM4, hD2⟩
    rw [hrs]
    ((conv => whnf); repeat (first | (apply load_at; (conv => lhs; whnf); (with_reducible assumption); rfl; (conv => whnf)) | (apply load_at; (conv => lhs; rw [add_plain, add_plain]); (with_reducible assumption); rfl; (conv => whnf)) | (apply loads_at; (conv => lhs; whnf); (with_reducible assumption); rfl; (conv => whnf)) | (refine ⟨⟨by omega, by omega⟩, ?_⟩; (conv => whnf))))
    exact ⟨rfl, D2, hM.trans hM4, hD2⟩
end Go.Proofs.YtmpiggcooboenaaDoor.Al
/- The reference's log: slots. -/
namespace Go.Proofs.YtmpiggcooboenaaDoor.Al
open Go Go.Al Go.Proofs Go.RowKit
set_option maxHeartbeats 8000000
set_option maxRecDepth 100000
set_option linter.unusedVariables false
set_option linter.unusedSimpArgs false
/-- Two rows of the call's own, and a part G of memory that they aren't in. -/
structure TwoM (F F1 : Heap) (S T : Value) (e1 z1 n1 : Nat) (xs : List Value) (e2 z2 n2 : Nat) (ys : List Value) (G : Heap) : Prop where
  s : Mine F F1 S e1 z1 n1 xs
  t : Mine F F1 T e2 z2 n2 ys
  ne : ∀ k, blk S = some k → blk T ≠ some k
  base : Ext G F1
  outS : ∀ k, blk S = some k → G k = none
  outT : ∀ k, blk T = some k → G k = none
section
variable {F F1 F2 G : Heap} {S T S2 : Value} {e1 z1 n1 e2 z2 n2 m1 : Nat} {xs ys us : List Value}
theorem TwoM.ext (h : TwoM F F1 S T e1 z1 n1 xs e2 z2 n2 ys G) (hE : Ext F1 F2) : TwoM F F2 S T e1 z1 n1 xs e2 z2 n2 ys G := ⟨h.s.mono hE, h.t.mono hE, h.ne, h.base.trans hE, h.outS, h.outT⟩
theorem TwoM.grow (h : TwoM F F1 S T e1 z1 n1 xs e2 z2 n2 ys G) (hE : Ext F1 F2) : TwoM F F2 S T e1 z1 n1 xs e2 z2 n2 ys (gain G F1 F2) := by
  have hb : ∀ {k}, F1 k ≠ none → gain G F1 F2 k = G k := fun {k} hk => by
    cases e : F1 k with
    | none => exact absurd e hk
    | some o => exact gain_old e
  refine ⟨h.s.mono hE, h.t.mono hE, h.ne, fun z o hz => ?_, fun k hk => by rw [hb (h.s.own.there hk)]; exact h.outS k hk, fun k hk => by rw [hb (h.t.own.there hk)]; exact h.outT k hk⟩
  cases e : F1 z with
  | none => rw [gain_new e] at hz; exact hz
  | some u => rw [gain_old e] at hz; exact hE _ _ (h.base _ _ hz)
theorem TwoM.pushS (h : TwoM F F1 S T e1 z1 n1 xs e2 z2 n2 ys G) (hO : Own F2 S2 e1 z1 m1 us) (hk : Keeps F1 F2 (blk S)) (hf : ∀ b, blk S2 = some b → blk S = some b ∨ F1 b = none) : TwoM F F2 S2 T e1 z1 m1 us e2 z2 n2 ys G := by
  refine ⟨⟨hO, fun k hk' => ?_, hk.ext h.s.ext h.s.fresh⟩, ⟨h.t.own.of_blk fun k o hk' ho => hk k o ho fun e => h.ne k e hk', h.t.fresh, hk.ext h.s.ext h.s.fresh⟩, fun k hk' => ?_, hk.ext h.base h.outS, fun k hk' => ?_, h.outT⟩
  · rcases hf k hk' with e | e
    · exact h.s.fresh k e
    · exact h.s.ext.none e
  · rcases hf k hk' with e | e
    · exact h.ne k e
    · exact fun e2 => h.t.own.there e2 e
  · rcases hf k hk' with e | e
    · exact h.outS k e
    · exact h.base.none e
theorem TwoM.swap (h : TwoM F F1 S T e1 z1 n1 xs e2 z2 n2 ys G) : TwoM F F1 T S e2 z2 n2 ys e1 z1 n1 xs G := ⟨h.t, h.s, fun k hk e => h.ne k e hk, h.base, h.outT, h.outS⟩
end
theorem rread_bad {r : RS} {i : Int} (h : rreadE r i ≠ 0) : unE (rreadL r i) ≠ 0 := by
  have e : rreadL r i = [] := by
    unfold rreadE at h
    unfold rreadL
    by_cases hd : r.down = true
    · rw [if_pos (.inl hd)]
    · rw [if_neg hd] at h
      by_cases hi : ¬ (0 ≤ i ∧ i < (r.L.length : Int))
      · rw [if_pos (.inr hi)]
      · rw [if_neg hi] at h
        exact absurd rfl h
  rw [e]
  decide
theorem rslots {D F : Heap} {b : Nat} {r : RS} (hE : Ext D F) (hD : Rk D b r) (n q : Int) (hn : 0 ≤ n) :
    FnK Tryd.prog 80 #[.pointer (some ⟨b, 0, none⟩), .int .i64 n, .int .i64 q] F (fun v F' => (∃ (rs : List RpR) (A1 A2 : Option Addr) (c1 c2 : Nat), v = .tuple #[.slice A1 rs.length c1, .slice A2 rs.length c2, .bool (wholeO rsO r n q).isSome] ∧ RowAt F' A1 (rs.map rbV) ∧ RowAt F' A2 (rs.map riV) ∧ (∀ a, A1 = some a → F a.block = none) ∧ (∀ a, A2 = some a → F a.block = none) ∧ (∀ p ∈ rs, RpOk F' p ∧ ∀ a, p.A = some a → F a.block = none) ∧ ((wholeO rsO r n q).isSome = true → wholeO rsO r n q = some (rs.map (rhW (r.L.length : Int))))) ∧ Ext F F') := by
  obtain ⟨q', hb⟩ := rk_cell hD
  replace hb := hE _ _ hb
  obtain ⟨N, hN⟩ : ∃ N, N = r.L.length := ⟨_, rfl⟩
  have hle := pagesN_le (N : Int)
  have k1 := fun F => rpages (N : Int) F
  have k2 := fun i F => rslot (N : Int) i F
  have k3 := fun i F hE => rread (F := F) hE hD i
  have k4 := fun i A c F hr hc => runpack (rreadL r i) A c F hr (by have := rread_len hD i; omega) hc
  have hln := fun i => rread_len hD i
  have hW : wholeO rsO r n q = if n > pagesN (N : Int) then none else whl rsO r q n.toNat 0 := by rw [hN]; rfl
  have hrec : ∀ k i : Nat, whl rsO r q (k + 1) i = if slotY rsO r q (i : Int) = true then (whl rsO r q k (i + 1)).map (slotP rsO r (i : Int) :: ·) else none := fun _ _ => rfl
  have h0 : ∀ i, whl rsO r q 0 i = some [] := fun _ => rfl
  have hY : ∀ i : Int, slotY rsO r q i = (isPg (N : Int) i && ((rreadE r (slotI (N : Int) i) == 0) && ((unE (rreadL r (slotI (N : Int) i)) == 0) && ((unQ (rreadL r (slotI (N : Int) i)) == q) && isPg (N : Int) (unP (rreadL r (slotI (N : Int) i))))))) := fun i => by rw [hN]; rfl
  have hSP : ∀ i : Int, slotP rsO r i = (homeI (N : Int) (unP (rreadL r (slotI (N : Int) i))), rreadL r (slotI (N : Int) i)) := fun i => by rw [hN]; rfl
  rw [← hN] at hb ⊢
  generalize wholeO rsO r n q = w at hW
  generalize whl rsO r q = wh at hW hrec h0
  (refine fn_walk tab_ok Tryd.func80 rfl rfl rfl rfl ?_; (conv => whnf))
  ((conv => whnf); repeat (first | (apply load_at; (conv => lhs; whnf); (with_reducible assumption); rfl; (conv => whnf)) | (apply load_at; (conv => lhs; rw [add_plain, add_plain]); (with_reducible assumption); rfl; (conv => whnf)) | (apply loads_at; (conv => lhs; whnf); (with_reducible assumption); rfl; (conv => whnf)) | (refine ⟨⟨by omega, by omega⟩, ?_⟩; (conv => whnf))))
  refine call_of (k1 F) ?_
  rintro v F ⟨rfl, rfl⟩
  ((conv => whnf); repeat (first | (apply load_at; (conv => lhs; whnf); (with_reducible assumption); rfl; (conv => whnf)) | (apply load_at; (conv => lhs; rw [add_plain, add_plain]); (with_reducible assumption); rfl; (conv => whnf)) | (apply loads_at; (conv => lhs; whnf); (with_reducible assumption); rfl; (conv => whnf)) | (refine ⟨⟨by omega, by omega⟩, ?_⟩; (conv => whnf))))
  refine cond_split (fun h => ?_) (fun h => ?_)
  · have hg : n > pagesN (N : Int) := of_decide_eq_true (show decide (n > pagesN (N : Int)) = true from h)
    rw [if_pos hg] at hW
    subst hW
    ((conv => whnf); repeat (first | (apply load_at; (conv => lhs; whnf); (with_reducible assumption); rfl; (conv => whnf)) | (apply load_at; (conv => lhs; rw [add_plain, add_plain]); (with_reducible assumption); rfl; (conv => whnf)) | (apply loads_at; (conv => lhs; whnf); (with_reducible assumption); rfl; (conv => whnf)) | (refine ⟨⟨by omega, by omega⟩, ?_⟩; (conv => whnf))))
    exact ⟨⟨[], none, none, 0, 0, rfl, RowAt.nil _ _, RowAt.nil _ _, (fun a h => by cases h), (fun a h => by cases h), (fun p h => by cases h), fun h => by cases h⟩, Ext.refl _⟩
  have hg : ¬ n > pagesN (N : Int) := of_decide_eq_false (show decide (n > pagesN (N : Int)) = false from h)
  rw [if_neg hg] at hW
  obtain ⟨m, rfl⟩ : ∃ m : Nat, n = (m : Int) := ⟨n.toNat, by omega⟩
  rw [Int.toNat_natCast] at hW
  clear h
  refine short [0, 1, 2, 9] [.pointer (some ⟨b, 0, none⟩), .int .i64 (m : Int), .int .i64 q, .int .i64 (N : Int)] rfl fun ρ => ?_
  ((conv => whnf); repeat (first | (apply load_at; (conv => lhs; whnf); (with_reducible assumption); rfl; (conv => whnf)) | (apply load_at; (conv => lhs; rw [add_plain, add_plain]); (with_reducible assumption); rfl; (conv => whnf)) | (apply loads_at; (conv => lhs; whnf); (with_reducible assumption); rfl; (conv => whnf)) | (refine ⟨⟨by omega, by omega⟩, ?_⟩; (conv => whnf))))
  refine loop_slots [0, 1, 2, 9, 10, 11, 12] (fun k vs F' => ∃ (i : Nat) (S T : Value) (rs : List RpR) (G : Heap), i + k = m ∧ rs.length = i ∧ vs = [.pointer (some ⟨b, 0, none⟩), .int .i64 (m : Int), .int .i64 q, .int .i64 (N : Int), S, T, .int .i64 (i : Int)] ∧ TwoM F F' S T 49 1 rs.length (rs.map rbV) 3 1 rs.length (rs.map riV) G ∧ (∀ p ∈ rs, RpOk G p ∧ ∀ a, p.A = some a → F a.block = none) ∧ w = (wh k i).map (rs.map (rhW (N : Int)) ++ ·)) m ⟨0, .slice none 0 0, .slice none 0 0, [], F, by omega, rfl, rfl, ⟨Mine.nil _ _ _ _ (Ext.refl _), Mine.nil _ _ _ _ (Ext.refl _), (fun k h => by cases h), Ext.refl _, (fun k h => by cases h), fun k h => by cases h⟩, (fun p h => by cases h), by rw [hW]; cases wh m 0 <;> rfl⟩ ?_
  rintro k vs F2 ρ ⟨i, S, T, rs, G, hik, hpi, rfl, hT, hok, hw⟩
  ((conv => whnf); repeat (first | (apply load_at; (conv => lhs; whnf); (with_reducible assumption); rfl; (conv => whnf)) | (apply load_at; (conv => lhs; rw [add_plain, add_plain]); (with_reducible assumption); rfl; (conv => whnf)) | (apply loads_at; (conv => lhs; whnf); (with_reducible assumption); rfl; (conv => whnf)) | (refine ⟨⟨by omega, by omega⟩, ?_⟩; (conv => whnf))))
  refine cond_split (fun h => ?_) (fun h => ?_)
  · have hi : i < m := by
      have h : decide ((i : Int) < (m : Int)) = true := h
      have := of_decide_eq_true h
      omega
    obtain ⟨k', rfl⟩ : ∃ k', k = k' + 1 := ⟨k - 1, by omega⟩
    have hE2 := hT.s.ext
    rw [hrec, hY, hSP] at hw
    have k2' := k2 (i : Int)
    rw [isPg_iff.2 (by omega : 0 ≤ (i : Int) ∧ (i : Int) < pagesN (N : Int)), Bool.true_and] at hw
    rw [isPg_iff.2 (by omega : 0 ≤ (i : Int) ∧ (i : Int) < pagesN (N : Int))] at k2'
    generalize slotI (N : Int) (i : Int) = si at hw k2'
    have k3' := k3 si
    have k4' := k4 si
    have hlen := hln si
    have hbad := rread_bad (r := r) (i := si)
    obtain ⟨hup, _⟩ := un_range (rreadL r si)
    generalize unP (rreadL r si) = up at hw k4' hup
    generalize unQ (rreadL r si) = uq at hw k4'
    generalize unE (rreadL r si) = ue at hw k4' hbad
    generalize unD (rreadL r si) = ud at k4'
    generalize rreadL r si = l at hw k3' k4' hlen
    generalize rreadE r si = re at hw k3' hbad
    ((conv => whnf); repeat (first | (apply load_at; (conv => lhs; whnf); (with_reducible assumption); rfl; (conv => whnf)) | (apply load_at; (conv => lhs; rw [add_plain, add_plain]); (with_reducible assumption); rfl; (conv => whnf)) | (apply loads_at; (conv => lhs; whnf); (with_reducible assumption); rfl; (conv => whnf)) | (refine ⟨⟨by omega, by omega⟩, ?_⟩; (conv => whnf))))
    refine call_of (k2' F2) ?_
    rintro v F2 ⟨rfl, rfl⟩
    ((conv => whnf); repeat (first | (apply load_at; (conv => lhs; whnf); (with_reducible assumption); rfl; (conv => whnf)) | (apply load_at; (conv => lhs; rw [add_plain, add_plain]); (with_reducible assumption); rfl; (conv => whnf)) | (apply loads_at; (conv => lhs; whnf); (with_reducible assumption); rfl; (conv => whnf)) | (refine ⟨⟨by omega, by omega⟩, ?_⟩; (conv => whnf))))
    refine call_of (k3' F2 (hE.trans hE2)) ?_
    rintro v F3 ⟨u, rfl, ⟨B, bc, rfl, hbc, hbr, hbf⟩, hE3⟩
    refine short [0, 1, 2, 9, 10, 11, 12, 44] [.pointer (some ⟨b, 0, none⟩), .int .i64 (m : Int), .int .i64 q, .int .i64 (N : Int), S, T, .int .i64 (i : Int), .tuple #[.slice B l.length bc, .int .i64 re]] rfl fun ρ => ?_
    ((conv => whnf); repeat (first | (apply load_at; (conv => lhs; whnf); (with_reducible assumption); rfl; (conv => whnf)) | (apply load_at; (conv => lhs; rw [add_plain, add_plain]); (with_reducible assumption); rfl; (conv => whnf)) | (apply loads_at; (conv => lhs; whnf); (with_reducible assumption); rfl; (conv => whnf)) | (refine ⟨⟨by omega, by omega⟩, ?_⟩; (conv => whnf))))
    refine call_of (k4' B bc F3 hbr hbc) ?_
    rintro v F4 ⟨u, rfl, _, hE4⟩
    have hE24 := hE3.trans hE4
    have hT4 := hT.grow hE24
    refine short [0, 1, 2, 9, 10, 11, 12, 15, 49] [.pointer (some ⟨b, 0, none⟩), .int .i64 (m : Int), .int .i64 q, .int .i64 (N : Int), S, T, .int .i64 (i : Int), .slice B l.length bc, .tuple #[.int .i64 up, .int .i64 uq, u, .int .i64 ue]] rfl fun ρ => ?_
    have bad : ∀ F', Ext F F' → w = none → (∃ (rs : List RpR) (A1 A2 : Option Addr) (c1 c2 : Nat), Value.tuple #[.slice none 0 0, .slice none 0 0, .bool false] = .tuple #[.slice A1 rs.length c1, .slice A2 rs.length c2, .bool w.isSome] ∧ RowAt F' A1 (rs.map rbV) ∧ RowAt F' A2 (rs.map riV) ∧ (∀ a, A1 = some a → F a.block = none) ∧ (∀ a, A2 = some a → F a.block = none) ∧ (∀ p ∈ rs, RpOk F' p ∧ ∀ a, p.A = some a → F a.block = none) ∧ (w.isSome = true → w = some (rs.map (rhW (N : Int))))) ∧ Ext F F' := by
      rintro F' hF rfl
      exact ⟨⟨[], none, none, 0, 0, rfl, RowAt.nil _ _, RowAt.nil _ _, (fun a h => by cases h), (fun a h => by cases h), (fun p h => by cases h), fun h => by cases h⟩, hF⟩
    ((conv => whnf); repeat (first | (apply load_at; (conv => lhs; whnf); (with_reducible assumption); rfl; (conv => whnf)) | (apply load_at; (conv => lhs; rw [add_plain, add_plain]); (with_reducible assumption); rfl; (conv => whnf)) | (apply loads_at; (conv => lhs; whnf); (with_reducible assumption); rfl; (conv => whnf)) | (refine ⟨⟨by omega, by omega⟩, ?_⟩; (conv => whnf))))
    refine cond_split (fun h => ?_) (fun h => ?_)
    rotate_left
    · have he : (ue == 0) = false := by
        have h : (!(ue != 0)) = false := h
        simpa using h
      rw [he, Bool.false_and, Bool.and_false, if_neg (by decide)] at hw
      ((conv => whnf); repeat (first | (apply load_at; (conv => lhs; whnf); (with_reducible assumption); rfl; (conv => whnf)) | (apply load_at; (conv => lhs; rw [add_plain, add_plain]); (with_reducible assumption); rfl; (conv => whnf)) | (apply loads_at; (conv => lhs; whnf); (with_reducible assumption); rfl; (conv => whnf)) | (refine ⟨⟨by omega, by omega⟩, ?_⟩; (conv => whnf))))
      exact bad _ hT4.s.ext hw
    have he : (ue == 0) = true := by
      have h : (!(ue != 0)) = true := h
      simpa using h
    have hre : (re == 0) = true := by
      rw [beq_iff_eq]
      cases e : decide (re = 0) with
      | true => exact of_decide_eq_true e
      | false => exact absurd (by simpa using he) (hbad (of_decide_eq_false e))
    rw [he, hre, Bool.true_and, Bool.true_and] at hw
    clear h
    ((conv => whnf); repeat (first | (apply load_at; (conv => lhs; whnf); (with_reducible assumption); rfl; (conv => whnf)) | (apply load_at; (conv => lhs; rw [add_plain, add_plain]); (with_reducible assumption); rfl; (conv => whnf)) | (apply loads_at; (conv => lhs; whnf); (with_reducible assumption); rfl; (conv => whnf)) | (refine ⟨⟨by omega, by omega⟩, ?_⟩; (conv => whnf))))
    refine cond_split (fun h => ?_) (fun h => ?_)
    rotate_left
    · have hq : (uq == q) = false := by
        have h : (!(uq != q)) = false := h
        simpa using h
      rw [hq, Bool.false_and, if_neg (by decide)] at hw
      ((conv => whnf); repeat (first | (apply load_at; (conv => lhs; whnf); (with_reducible assumption); rfl; (conv => whnf)) | (apply load_at; (conv => lhs; rw [add_plain, add_plain]); (with_reducible assumption); rfl; (conv => whnf)) | (apply loads_at; (conv => lhs; whnf); (with_reducible assumption); rfl; (conv => whnf)) | (refine ⟨⟨by omega, by omega⟩, ?_⟩; (conv => whnf))))
      exact bad _ hT4.s.ext hw
    have hq : (uq == q) = true := by
      have h : (!(uq != q)) = true := h
      simpa using h
    rw [hq, Bool.true_and] at hw
    clear h
    ((conv => whnf); repeat (first | (apply load_at; (conv => lhs; whnf); (with_reducible assumption); rfl; (conv => whnf)) | (apply load_at; (conv => lhs; rw [add_plain, add_plain]); (with_reducible assumption); rfl; (conv => whnf)) | (apply loads_at; (conv => lhs; whnf); (with_reducible assumption); rfl; (conv => whnf)) | (refine ⟨⟨by omega, by omega⟩, ?_⟩; (conv => whnf))))
    refine call_of (k1 F4) ?_
    rintro v F4 ⟨rfl, rfl⟩
    refine short [0, 1, 2, 9, 10, 11, 12, 15, 17, 61, 62, 64] [.pointer (some ⟨b, 0, none⟩), .int .i64 (m : Int), .int .i64 q, .int .i64 (N : Int), S, T, .int .i64 (i : Int), .slice B l.length bc, .int .i64 up, .bool false, .int .i64 up, .int .i64 (pagesN (N : Int))] (by
      have e2 : (uq != q) = false := by rw [bne, hq]; rfl
      rw [← e2]; rfl) fun ρ => ?_
    ((conv => whnf); repeat (first | (apply load_at; (conv => lhs; whnf); (with_reducible assumption); rfl; (conv => whnf)) | (apply load_at; (conv => lhs; rw [add_plain, add_plain]); (with_reducible assumption); rfl; (conv => whnf)) | (apply loads_at; (conv => lhs; whnf); (with_reducible assumption); rfl; (conv => whnf)) | (refine ⟨⟨by omega, by omega⟩, ?_⟩; (conv => whnf))))
    refine cond_split (fun h => ?_) (fun h => ?_)
    · have hz : isPg (N : Int) up = false := by
        have := of_decide_eq_true (show decide (up ≥ pagesN (N : Int)) = true from h)
        unfold isPg
        exact decide_eq_false (by omega)
      rw [hz, if_neg (by decide)] at hw
      ((conv => whnf); repeat (first | (apply load_at; (conv => lhs; whnf); (with_reducible assumption); rfl; (conv => whnf)) | (apply load_at; (conv => lhs; rw [add_plain, add_plain]); (with_reducible assumption); rfl; (conv => whnf)) | (apply loads_at; (conv => lhs; whnf); (with_reducible assumption); rfl; (conv => whnf)) | (refine ⟨⟨by omega, by omega⟩, ?_⟩; (conv => whnf))))
      exact bad _ hT4.s.ext hw
    have hz : isPg (N : Int) up = true := by
      have := of_decide_eq_false (show decide (up ≥ pagesN (N : Int)) = false from h)
      exact isPg_iff.2 (by omega)
    rw [hz, if_pos rfl] at hw
    clear h
    ((conv => whnf); repeat (first | (apply load_at; (conv => lhs; whnf); (with_reducible assumption); rfl; (conv => whnf)) | (apply load_at; (conv => lhs; rw [add_plain, add_plain]); (with_reducible assumption); rfl; (conv => whnf)) | (apply loads_at; (conv => lhs; whnf); (with_reducible assumption); rfl; (conv => whnf)) | (refine ⟨⟨by omega, by omega⟩, ?_⟩; (conv => whnf))))
    refine new_step (.cells #[.slice B l.length bc] 49) rfl fun g h0_g => ?_
    have hE_g := Ext.new h0_g (.cells #[.slice B l.length bc] 49)
    have hB_g := Heap.put_same F4 g (.cells #[.slice B l.length bc] 49)
    generalize F4.put g _ = F5 at hE_g hB_g ⊢
    have hT5 := hT4.ext hE_g
    have hr5 := row_blk hB_g
    ((conv => whnf); repeat (first | (apply load_at; (conv => lhs; whnf); (with_reducible assumption); rfl; (conv => whnf)) | (apply load_at; (conv => lhs; rw [add_plain, add_plain]); (with_reducible assumption); rfl; (conv => whnf)) | (apply loads_at; (conv => lhs; whnf); (with_reducible assumption); rfl; (conv => whnf)) | (refine ⟨⟨by omega, by omega⟩, ?_⟩; (conv => whnf))))
    refine append_own tab_ok (s := S) (n := rs.length) (xs := rs.map rbV) (m := 1) (ys := [.slice B l.length bc]) (y := .slice (some ⟨g, 0, none⟩) 1 1) rfl rfl rfl rfl rfl ⟨_, rfl, fun k h => by cases h⟩ ⟨_, rfl, rfl⟩ (by decide) hT5.s.own ⟨rfl, .inl ⟨_, _, rfl, hr5⟩⟩ (by simp [Value.oneCell']) (by show 2 * (rs.length + 1) * 24 ≤ _; omega) fun S6 F6 hO6 hk6 hf6 => ?_
    have hT6 := (hT5.pushS hO6 hk6 hf6).swap
    ((conv => whnf); repeat (first | (apply load_at; (conv => lhs; whnf); (with_reducible assumption); rfl; (conv => whnf)) | (apply load_at; (conv => lhs; rw [add_plain, add_plain]); (with_reducible assumption); rfl; (conv => whnf)) | (apply loads_at; (conv => lhs; whnf); (with_reducible assumption); rfl; (conv => whnf)) | (refine ⟨⟨by omega, by omega⟩, ?_⟩; (conv => whnf))))
    refine new_step (.cells #[.int .i64 up] 3) rfl fun e h0_e => ?_
    have hE_e := Ext.new h0_e (.cells #[.int .i64 up] 3)
    have hB_e := Heap.put_same F6 e (.cells #[.int .i64 up] 3)
    generalize F6.put e _ = F7 at hE_e hB_e ⊢
    have hT7 := hT6.ext hE_e
    have hr7 := row_blk hB_e
    ((conv => whnf); repeat (first | (apply load_at; (conv => lhs; whnf); (with_reducible assumption); rfl; (conv => whnf)) | (apply load_at; (conv => lhs; rw [add_plain, add_plain]); (with_reducible assumption); rfl; (conv => whnf)) | (apply loads_at; (conv => lhs; whnf); (with_reducible assumption); rfl; (conv => whnf)) | (refine ⟨⟨by omega, by omega⟩, ?_⟩; (conv => whnf))))
    refine append_own tab_ok (s := T) (n := rs.length) (xs := rs.map riV) (m := 1) (ys := [.int .i64 up]) (y := .slice (some ⟨e, 0, none⟩) 1 1) rfl rfl rfl rfl rfl ⟨_, rfl, fun k h => by cases h⟩ ⟨_, rfl, rfl⟩ (by decide) hT7.s.own ⟨rfl, .inl ⟨_, _, rfl, hr7⟩⟩ (by simp [Value.oneCell']) (by show 2 * (rs.length + 1) * 8 ≤ _; omega) fun T8 F8 hO8 hk8 hf8 => ?_
    have hT8 := (hT7.pushS hO8 hk8 hf8).swap
    have e1 : (rs ++ [(⟨up, l, B, bc⟩ : RpR)]).map rbV = rs.map rbV ++ [.slice B l.length bc] := List.map_append
    have e2 : (rs ++ [(⟨up, l, B, bc⟩ : RpR)]).map riV = rs.map riV ++ [.int .i64 up] := List.map_append
    have e3 : (rs ++ [(⟨up, l, B, bc⟩ : RpR)]).length = rs.length + 1 := List.length_append
    rw [← e1, ← e2, ← e3] at hT8
    ((conv => whnf); repeat (first | (apply load_at; (conv => lhs; whnf); (with_reducible assumption); rfl; (conv => whnf)) | (apply load_at; (conv => lhs; rw [add_plain, add_plain]); (with_reducible assumption); rfl; (conv => whnf)) | (apply loads_at; (conv => lhs; whnf); (with_reducible assumption); rfl; (conv => whnf)) | (refine ⟨⟨by omega, by omega⟩, ?_⟩; (conv => whnf))))
    refine ⟨k', by omega, i + 1, S6, T8, rs ++ [⟨up, l, B, bc⟩], gain G F2 F4, by omega, by rw [e3, hpi], ?_, hT8, fun x hx => ?_, ?_⟩
    · rw [← wrap_succ (j := i) (by omega)]
      rfl
    · rcases List.mem_append.1 hx with hx | hx
      · exact ⟨(hok x hx).1.mono (gain_ext hT.base), (hok x hx).2⟩
      · rw [List.mem_singleton] at hx
        subst hx
        exact ⟨⟨rowAt_gain (hbr.mono hE4) hbf, by show l.length ≤ 900000; omega⟩, fun a ha => hE2.none (hbf a ha)⟩
    · rw [hw]
      cases wh k' (i + 1) with
      | none => rfl
      | some us => show some (rs.map (rhW (N : Int)) ++ ((homeI (N : Int) up, l) :: us)) = some ((rs ++ [(⟨up, l, B, bc⟩ : RpR)]).map (rhW (N : Int)) ++ us); rw [List.map_append, List.append_assoc]; rfl
  · have hi : i = m := by
      have := of_decide_eq_false h
      omega
    obtain rfl : k = 0 := by omega
    rw [h0] at hw
    obtain ⟨A1, c1, rfl, _, hr1⟩ := hT.s.own.row
    obtain ⟨A2, c2, rfl, _, hr2⟩ := hT.t.own.row
    have hw : w = some (rs.map (rhW (N : Int)) ++ []) := hw
    rw [List.append_nil] at hw
    subst hw
    ((conv => whnf); repeat (first | (apply load_at; (conv => lhs; whnf); (with_reducible assumption); rfl; (conv => whnf)) | (apply load_at; (conv => lhs; rw [add_plain, add_plain]); (with_reducible assumption); rfl; (conv => whnf)) | (apply loads_at; (conv => lhs; whnf); (with_reducible assumption); rfl; (conv => whnf)) | (refine ⟨⟨by omega, by omega⟩, ?_⟩; (conv => whnf))))
    exact ⟨⟨rs, A1, A2, c1, c2, rfl, hr1, hr2, fun a ha => hT.s.fresh a.block (by rw [ha]; rfl), fun a ha => hT.t.fresh a.block (by rw [ha]; rfl), fun p hp => ⟨(hok p hp).1.mono hT.base, (hok p hp).2⟩, fun _ => rfl⟩, hT.s.ext⟩
end Go.Proofs.YtmpiggcooboenaaDoor.Al
/- The reference's log: Open, right. -/
namespace Go.Proofs.YtmpiggcooboenaaDoor.Al
open Go Go.Al Go.Proofs Go.RowKit
set_option maxHeartbeats 8000000
set_option maxRecDepth 100000
set_option linter.unusedVariables false
set_option linter.unusedSimpArgs false
def RgV (D F D' F' : Heap) (b : Nat) (w : Value) : Option Int → Prop
  | none => w = .pointer none
  | some q => ∃ lb, w = .pointer (some ⟨lb, 0, none⟩) ∧ (D lb = none → F lb = none) ∧ D' lb = none ∧ F' lb = some (rgO b q)
theorem rgOpen {D F : Heap} {b : Nat} {r : RS} (hE : Ext D F) (hD : Rk D b r) (hw : r.done + 40000 < 1000000000) :
    FnK Tryd.prog 36 #[.pointer (some ⟨b, 0, none⟩)] F (fun v F' => ∃ w D', v = .tuple #[w, .int .i64 (openS rsO r).2.1] ∧ Moves D F D' F' ∧ Rk D' b (openS rsO r).1 ∧ RgV D F D' F' b w (openS rsO r).2.2) := by
  have k1 := rread hE hD 0
  have hl := rread_len hD 0
  have k2 := fun A c F hr hc => runpack (rreadL r 0) A c F hr (by omega) hc
  obtain ⟨u1, u2, u3⟩ := un_range (rreadL r 0)
  have k3 := fun F hE => rslots (F := F) hE hD (unP (rreadL r 0)) (unQ (rreadL r 0)) u1
  have hwl := fun ws h => wholeO_len (o := rsO) (a := r) (n := unP (rreadL r 0)) (q := unQ (rreadL r 0)) (ws := ws) h
  have hle := pagesN_le (r.L.length : Int)
  have hO : openS rsO r = if (rdN rsO r).2.2 ≠ 0 then (r, (rdN rsO r).2.2, none) else
    match wholeO rsO r (rdN rsO r).1 (rdN rsO r).2.1 with
    | some ws => if (runW rsO r ws).2 ≠ 0 then ((runW rsO r ws).1, (runW rsO r ws).2, none) else ((runW rsO r ws).1, 0, some (rdN rsO r).2.1)
    | none => (r, 0, some (rdN rsO r).2.1) := rfl
  have hR : rdN rsO r = if rreadE r 0 = 0 then (unP (rreadL r 0), unQ (rreadL r 0), unE (rreadL r 0)) else (0, 0, rreadE r 0) := rfl
  replace hwl : ∀ ws, wholeO rsO r (unP (rreadL r 0)) (unQ (rreadL r 0)) = some ws → ws.length = (unP (rreadL r 0)).toNat ∧ unP (rreadL r 0) ≤ pagesN (r.L.length : Int) := hwl
  rw [hR] at hO
  clear hR
  generalize openS rsO r = os at hO
  generalize unP (rreadL r 0) = n at k2 k3 hwl hO
  generalize unQ (rreadL r 0) = q at k2 k3 hwl hO
  generalize unE (rreadL r 0) = e at k2 hO
  generalize unD (rreadL r 0) = d at k2
  generalize rreadL r 0 = l at k1 k2 hl
  generalize rreadE r 0 = re at k1 hO
  (refine fn_walk tab_ok Tryd.func36 rfl rfl rfl rfl ?_; (conv => whnf))
  refine call_of k1 ?_
  rintro v F1 ⟨u, rfl, ⟨A, c, rfl, hc, hr, hf⟩, hE1⟩
  refine short [0, 15] [.pointer (some ⟨b, 0, none⟩), .tuple #[.slice A l.length c, .int .i64 re]] rfl fun ρ => ?_
  ((conv => whnf); repeat (first | (apply load_at; (conv => lhs; whnf); (with_reducible assumption); rfl; (conv => whnf)) | (apply load_at; (conv => lhs; rw [add_plain, add_plain]); (with_reducible assumption); rfl; (conv => whnf)) | (apply loads_at; (conv => lhs; whnf); (with_reducible assumption); rfl; (conv => whnf)) | (refine ⟨⟨by omega, by omega⟩, ?_⟩; (conv => whnf))))
  refine cond_split (fun h => ?_) (fun h => ?_)
  · have he : re ≠ 0 := by
      have h : (re != 0) = true := h
      simpa using h
    rw [if_neg he] at hO
    dsimp only at hO
    rw [if_pos he] at hO
    subst hO
    ((conv => whnf); repeat (first | (apply load_at; (conv => lhs; whnf); (with_reducible assumption); rfl; (conv => whnf)) | (apply load_at; (conv => lhs; rw [add_plain, add_plain]); (with_reducible assumption); rfl; (conv => whnf)) | (apply loads_at; (conv => lhs; whnf); (with_reducible assumption); rfl; (conv => whnf)) | (refine ⟨⟨by omega, by omega⟩, ?_⟩; (conv => whnf))))
    exact ⟨_, D, rfl, Moves.ext hE hE1, hD, rfl⟩
  have he : re = 0 := by
    have h : (re != 0) = false := h
    simpa using h
  rw [if_pos he] at hO
  dsimp only at hO
  clear h
  ((conv => whnf); repeat (first | (apply load_at; (conv => lhs; whnf); (with_reducible assumption); rfl; (conv => whnf)) | (apply load_at; (conv => lhs; rw [add_plain, add_plain]); (with_reducible assumption); rfl; (conv => whnf)) | (apply loads_at; (conv => lhs; whnf); (with_reducible assumption); rfl; (conv => whnf)) | (refine ⟨⟨by omega, by omega⟩, ?_⟩; (conv => whnf))))
  refine call_of (k2 A c F1 hr hc) ?_
  rintro v F2 ⟨u, rfl, _, hE2⟩
  have hE02 := hE1.trans hE2
  refine short [0, 23] [.pointer (some ⟨b, 0, none⟩), .tuple #[.int .i64 n, .int .i64 q, u, .int .i64 e]] rfl fun ρ => ?_
  ((conv => whnf); repeat (first | (apply load_at; (conv => lhs; whnf); (with_reducible assumption); rfl; (conv => whnf)) | (apply load_at; (conv => lhs; rw [add_plain, add_plain]); (with_reducible assumption); rfl; (conv => whnf)) | (apply loads_at; (conv => lhs; whnf); (with_reducible assumption); rfl; (conv => whnf)) | (refine ⟨⟨by omega, by omega⟩, ?_⟩; (conv => whnf))))
  refine cond_split (fun h => ?_) (fun h => ?_)
  · have he : e ≠ 0 := by
      have h : (e != 0) = true := h
      simpa using h
    rw [if_pos he] at hO
    subst hO
    ((conv => whnf); repeat (first | (apply load_at; (conv => lhs; whnf); (with_reducible assumption); rfl; (conv => whnf)) | (apply load_at; (conv => lhs; rw [add_plain, add_plain]); (with_reducible assumption); rfl; (conv => whnf)) | (apply loads_at; (conv => lhs; whnf); (with_reducible assumption); rfl; (conv => whnf)) | (refine ⟨⟨by omega, by omega⟩, ?_⟩; (conv => whnf))))
    exact ⟨_, D, rfl, Moves.ext hE hE02, hD, rfl⟩
  have he : ¬ e ≠ 0 := by
    have h : (e != 0) = false := h
    simpa using h
  rw [if_neg he] at hO
  clear h
  ((conv => whnf); repeat (first | (apply load_at; (conv => lhs; whnf); (with_reducible assumption); rfl; (conv => whnf)) | (apply load_at; (conv => lhs; rw [add_plain, add_plain]); (with_reducible assumption); rfl; (conv => whnf)) | (apply loads_at; (conv => lhs; whnf); (with_reducible assumption); rfl; (conv => whnf)) | (refine ⟨⟨by omega, by omega⟩, ?_⟩; (conv => whnf))))
  refine call_of (k3 F2 (hE.trans hE02)) ?_
  rintro v F4 ⟨⟨rs, A1, A2, c1, c2, rfl, hr1, hr2, hf1, hf2, hok, hwo⟩, hE4⟩
  have hE04 := hE02.trans hE4
  generalize wholeO rsO r n q = wo at hO hwl hwo ⊢
  refine short [0, 7, 35] [.pointer (some ⟨b, 0, none⟩), .int .i64 q, .tuple #[.slice A1 rs.length c1, .slice A2 rs.length c2, .bool wo.isSome]] rfl fun ρ => ?_
  cases hws : wo with
  | none =>
    rw [hws] at hO
    subst hO
    ((conv => whnf); repeat (first | (apply load_at; (conv => lhs; whnf); (with_reducible assumption); rfl; (conv => whnf)) | (apply load_at; (conv => lhs; rw [add_plain, add_plain]); (with_reducible assumption); rfl; (conv => whnf)) | (apply loads_at; (conv => lhs; whnf); (with_reducible assumption); rfl; (conv => whnf)) | (refine ⟨⟨by omega, by omega⟩, ?_⟩; (conv => whnf))))
    refine new_step (rgO b q) rfl fun lb h0_lb => ?_
    have hE_lb := Ext.new h0_lb (rgO b q)
    have hB_lb := Heap.put_same F4 lb (rgO b q)
    generalize F4.put lb _ = F5 at hE_lb hB_lb ⊢
    ((conv => whnf); repeat (first | (apply load_at; (conv => lhs; whnf); (with_reducible assumption); rfl; (conv => whnf)) | (apply load_at; (conv => lhs; rw [add_plain, add_plain]); (with_reducible assumption); rfl; (conv => whnf)) | (apply loads_at; (conv => lhs; whnf); (with_reducible assumption); rfl; (conv => whnf)) | (refine ⟨⟨by omega, by omega⟩, ?_⟩; (conv => whnf))))
    exact ⟨_, D, rfl, Moves.ext hE (hE04.trans hE_lb), hD, lb, rfl, fun _ => hE04.none h0_lb, (hE.trans hE04).none h0_lb, hB_lb⟩
  | some ws =>
    have hws2 : ws = rs.map (rhW (r.L.length : Int)) := by
      have := hwo (by rw [hws]; rfl)
      rw [hws] at this
      exact Option.some.inj this
    obtain ⟨hl1, hl2⟩ := hwl ws hws
    rw [hws2, List.length_map] at hl1
    rw [hws, hws2] at hO
    dsimp only at hO
    have k5 := rhomes (hE.trans hE04) hD (newH_ext F F4) (newH_apart F4 hE) rs A1 A2 c1 c2 (newH_row hr1 fun a ha => hE02.none (hf1 a ha)) (newH_row hr2 fun a ha => hE02.none (hf2 a ha)) (fun p hp => ⟨newH_row (hok p hp).1.row fun a ha => hE02.none ((hok p hp).2 a ha), (hok p hp).1.len⟩) (by omega) (by omega)
    generalize runW rsO r (rs.map (rhW (r.L.length : Int))) = rw_ at k5 hO
    ((conv => whnf); repeat (first | (apply load_at; (conv => lhs; whnf); (with_reducible assumption); rfl; (conv => whnf)) | (apply load_at; (conv => lhs; rw [add_plain, add_plain]); (with_reducible assumption); rfl; (conv => whnf)) | (apply loads_at; (conv => lhs; whnf); (with_reducible assumption); rfl; (conv => whnf)) | (refine ⟨⟨by omega, by omega⟩, ?_⟩; (conv => whnf))))
    refine call_of k5 ?_
    rintro v F5 ⟨rfl, D5, hM5, hD5⟩
    have hM := (Moves.ext hE hE04).trans hM5
    have hMo := fun lb (h : F5 lb = none) (hd : D lb = none) => (show F lb = none from by
      cases e : F lb with
      | none => rfl
      | some o => rw [hM.out _ _ e hd] at h; cases h)
    obtain ⟨r1, r2⟩ := rw_
    dsimp only at hO hD5
    refine short [0, 7, 43] [.pointer (some ⟨b, 0, none⟩), .int .i64 q, .int .i64 r2] rfl fun ρ => ?_
    ((conv => whnf); repeat (first | (apply load_at; (conv => lhs; whnf); (with_reducible assumption); rfl; (conv => whnf)) | (apply load_at; (conv => lhs; rw [add_plain, add_plain]); (with_reducible assumption); rfl; (conv => whnf)) | (apply loads_at; (conv => lhs; whnf); (with_reducible assumption); rfl; (conv => whnf)) | (refine ⟨⟨by omega, by omega⟩, ?_⟩; (conv => whnf))))
    refine cond_split (fun h => ?_) (fun h => ?_)
    · have hr2 : r2 ≠ 0 := by
        have h : (r2 != 0) = true := h
        simpa using h
      rw [if_pos hr2] at hO
      subst hO
      ((conv => whnf); repeat (first | (apply load_at; (conv => lhs; whnf); (with_reducible assumption); rfl; (conv => whnf)) | (apply load_at; (conv => lhs; rw [add_plain, add_plain]); (with_reducible assumption); rfl; (conv => whnf)) | (apply loads_at; (conv => lhs; whnf); (with_reducible assumption); rfl; (conv => whnf)) | (refine ⟨⟨by omega, by omega⟩, ?_⟩; (conv => whnf))))
      exact ⟨_, D5, rfl, hM, hD5, rfl⟩
    · have hr2 : ¬ r2 ≠ 0 := by
        have h : (r2 != 0) = false := h
        simpa using h
      rw [if_neg hr2] at hO
      subst hO
      ((conv => whnf); repeat (first | (apply load_at; (conv => lhs; whnf); (with_reducible assumption); rfl; (conv => whnf)) | (apply load_at; (conv => lhs; rw [add_plain, add_plain]); (with_reducible assumption); rfl; (conv => whnf)) | (apply loads_at; (conv => lhs; whnf); (with_reducible assumption); rfl; (conv => whnf)) | (refine ⟨⟨by omega, by omega⟩, ?_⟩; (conv => whnf))))
      refine new_step (rgO b q) rfl fun lb h0_lb => ?_
      have hE_lb := Ext.new h0_lb (rgO b q)
      have hB_lb := Heap.put_same F5 lb (rgO b q)
      generalize F5.put lb _ = F6 at hE_lb hB_lb ⊢
      ((conv => whnf); repeat (first | (apply load_at; (conv => lhs; whnf); (with_reducible assumption); rfl; (conv => whnf)) | (apply load_at; (conv => lhs; rw [add_plain, add_plain]); (with_reducible assumption); rfl; (conv => whnf)) | (apply loads_at; (conv => lhs; whnf); (with_reducible assumption); rfl; (conv => whnf)) | (refine ⟨⟨by omega, by omega⟩, ?_⟩; (conv => whnf))))
      exact ⟨_, D5, rfl, hM.trans (Moves.ext hM.inn hE_lb), hD5, lb, rfl, hMo lb h0_lb, hM.inn.none h0_lb, hB_lb⟩
end Go.Proofs.YtmpiggcooboenaaDoor.Al
/- The reference's log: right. -/
namespace Go.Proofs.YtmpiggcooboenaaDoor.Al
open Go Go.Al Go.Proofs Go.RowKit
set_option maxHeartbeats 8000000
set_option maxRecDepth 100000
set_option linter.unusedVariables false
set_option linter.unusedSimpArgs false
theorem rgRight {D F : Heap} {b lb : Nat} {r : RS} {q : Int} (hE : Ext D F) (hD : Rk D b r) (hlg : F lb = some (rgO b q)) (ims : List PcR) (A : Option Addr) (c : Nat) (hr : RowAt F A (rowS pcC ims)) (hl : ims.length ≤ 100000) :
    FnK Tryd.prog 85 #[.pointer (some ⟨lb, 0, none⟩), .slice A ims.length c] F (fun v F' => v = .bool (rightL (r.L.length : Int) (ims.map pcW) []) ∧ F' = F) := by
  obtain ⟨N, hN⟩ : ∃ N : Nat, N = r.L.length := ⟨_, rfl⟩
  have kP := rgPages hE hD hlg
  have hiff := right_iff (N : Int) (ims.map pcW) []
  rw [← hN] at kP ⊢
  have hbad1 : ∀ p ∈ ims, ¬ (isPg (N : Int) p.at_ = true ∧ p.l.length = 240) → rightL (N : Int) (ims.map pcW) [] = false := fun p hp hn => by
    cases hz : rightL (N : Int) (ims.map pcW) [] with
    | false => rfl
    | true =>
      obtain ⟨h1, _⟩ := hiff.1 hz
      obtain ⟨g1, g2, _⟩ := h1 (pcW p) (List.mem_map_of_mem hp)
      exact absurd ⟨g1, g2⟩ hn
  have hbad2 : ∀ i k : Nat, k < i → ∀ x y : PcR, ims[k]? = some x → ims[i]? = some y → x.at_ = y.at_ → rightL (N : Int) (ims.map pcW) [] = false := fun i k hki x y hx hy e => by
    cases hz : rightL (N : Int) (ims.map pcW) [] with
    | false => rfl
    | true =>
      obtain ⟨_, h2⟩ := hiff.1 hz
      obtain ⟨k1, e1⟩ := List.getElem?_eq_some_iff.1 hx
      obtain ⟨i1, e2⟩ := List.getElem?_eq_some_iff.1 hy
      have := List.pairwise_iff_getElem.1 h2 k i (by simp; exact k1) (by simp; exact i1) hki
      refine absurd ?_ this
      simp only [List.getElem_map, e1, e2]
      exact e
  have hgood : (∀ (i : Nat) (p : PcR), ims[i]? = some p → isPg (N : Int) p.at_ = true ∧ p.l.length = 240) → (∀ i k : Nat, k < i → ∀ x y : PcR, ims[k]? = some x → ims[i]? = some y → x.at_ ≠ y.at_) → rightL (N : Int) (ims.map pcW) [] = true := fun h1 h2 => by
    refine hiff.2 ⟨fun p hp => ?_, ?_⟩
    · obtain ⟨x, hx, rfl⟩ := List.mem_map.1 hp
      obtain ⟨i, hi, e⟩ := List.getElem_of_mem hx
      obtain ⟨g1, g2⟩ := h1 i x (by rw [List.getElem?_eq_getElem hi, e])
      exact ⟨g1, g2, List.not_mem_nil⟩
    · refine List.pairwise_iff_getElem.2 fun k i hk hi hki => ?_
      simp only [List.getElem_map]
      simp at hk hi
      exact h2 i k hki _ _ (List.getElem?_eq_getElem hk) (List.getElem?_eq_getElem hi)
  have hle := pagesN_le (N : Int)
  have hPg : ∀ x, isPg (N : Int) x = decide (0 ≤ x ∧ x < pagesN (N : Int)) := fun _ => rfl
  clear hiff
  generalize rightL (N : Int) (ims.map pcW) [] = res at hbad1 hbad2 hgood ⊢
  generalize isPg (N : Int) = isP at hbad1 hgood hPg
  generalize pagesN (N : Int) = P at kP hle hPg
  have hcel : ∀ (i : Nat) p, ims[i]? = some p → ∃ ad, A = some ad ∧ F.cell? ((ad.add (Int.toNat (i : Int) * 2)).add 0) = some (.int .i64 p.at_) ∧ F.cell? ((ad.add (Int.toNat (i : Int) * 2)).add 1) = some (.slice p.A p.l.length p.c) := fun i p hp => by
    obtain ⟨ad, rfl⟩ := hr.some (by have := (List.getElem?_eq_some_iff.1 hp).1; rw [rowS_len pcC_len]; omega)
    exact ⟨ad, rfl, rowS_cell pcC_len hr hp rfl, rowS_cell pcC_len hr hp rfl⟩
  (refine fn_walk tab_ok Tryd.func85 rfl rfl rfl rfl ?_; (conv => whnf))
  refine loop_slots [0, 1, 5] (fun k vs F' => ∃ i : Nat, i + k = ims.length ∧ vs = [.pointer (some ⟨lb, 0, none⟩), .slice A ims.length c, .int .i64 (i : Int)] ∧ F' = F ∧ (∀ (j : Nat) (p : PcR), j < i → ims[j]? = some p → isP p.at_ = true ∧ p.l.length = 240) ∧ (∀ j k : Nat, k < j → j < i → ∀ x y : PcR, ims[k]? = some x → ims[j]? = some y → x.at_ ≠ y.at_)) ims.length ⟨0, by omega, rfl, rfl, (fun j p h => by omega), fun j k _ h => by omega⟩ ?_
  rintro k vs F2 ρ ⟨i, hik, rfl, rfl, g1, g2⟩
  ((conv => whnf); repeat (first | (apply load_at; (conv => lhs; whnf); (with_reducible assumption); rfl; (conv => whnf)) | (apply load_at; (conv => lhs; rw [add_plain, add_plain]); (with_reducible assumption); rfl; (conv => whnf)) | (apply loads_at; (conv => lhs; whnf); (with_reducible assumption); rfl; (conv => whnf)) | (refine ⟨⟨by omega, by omega⟩, ?_⟩; (conv => whnf))))
  refine cond_split (fun h => ?_) (fun h => ?_)
  · have hi : i < ims.length := by
      have h : decide ((i : Int) < (ims.length : Int)) = true := h
      have := of_decide_eq_true h
      omega
    have hx : ims[i]? = some ims[i] := List.getElem?_eq_getElem hi
    have hm := List.getElem_mem hi
    obtain ⟨ad, rfl, c0, c1⟩ := hcel i _ hx
    have b1 := hbad1 _ hm
    generalize ims[i] = p at hx c0 c1 b1
    obtain ⟨pat, pl, pA, pc⟩ := p
    dsimp only at c0 c1 b1
    rw [hPg] at b1
    ((conv => whnf); repeat (first | (apply load_at; (conv => lhs; whnf); (with_reducible assumption); rfl; (conv => whnf)) | (apply load_at; (conv => lhs; rw [add_plain, add_plain]); (with_reducible assumption); rfl; (conv => whnf)) | (apply loads_at; (conv => lhs; whnf); (with_reducible assumption); rfl; (conv => whnf)) | (refine ⟨⟨by omega, by omega⟩, ?_⟩; (conv => whnf))))
    refine draw_tree tab_ok (by kernel_rfl) [] (DT.row [0, 1, 2, 3, 4, 5, 6, 7, 8, 9, 10, 11, 12, 13, 14, 15, 16, 17, 18, 19, 20, 21, 22, 23, 24] .nil) (by kernel_rfl) ?_
    ((conv => whnf); repeat (first | (apply load_at; (conv => lhs; whnf); (with_reducible assumption); rfl; (conv => whnf)) | (apply load_at; (conv => lhs; rw [add_plain, add_plain]); (with_reducible assumption); rfl; (conv => whnf)) | (apply loads_at; (conv => lhs; whnf); (with_reducible assumption); rfl; (conv => whnf)) | (refine ⟨⟨by omega, by omega⟩, ?_⟩; (conv => whnf))))
    refine load_step c0 ?_
    ((conv => whnf); repeat (first | (apply load_at; (conv => lhs; whnf); (with_reducible assumption); rfl; (conv => whnf)) | (apply load_at; (conv => lhs; rw [add_plain, add_plain]); (with_reducible assumption); rfl; (conv => whnf)) | (apply loads_at; (conv => lhs; whnf); (with_reducible assumption); rfl; (conv => whnf)) | (refine ⟨⟨by omega, by omega⟩, ?_⟩; (conv => whnf))))
    have fls : ∀ P : Prop, ¬ P → True := fun _ _ => trivial
    cases hd : decide (pat < 0) with
    | true =>
      have hp0 := of_decide_eq_true hd
      have hres := b1 (by rintro ⟨e, _⟩; have := of_decide_eq_true e; omega)
      subst hres
      ((conv => whnf); repeat (first | (apply load_at; (conv => lhs; whnf); (with_reducible assumption); rfl; (conv => whnf)) | (apply load_at; (conv => lhs; rw [add_plain, add_plain]); (with_reducible assumption); rfl; (conv => whnf)) | (apply loads_at; (conv => lhs; whnf); (with_reducible assumption); rfl; (conv => whnf)) | (refine ⟨⟨by omega, by omega⟩, ?_⟩; (conv => whnf))))
      exact ⟨rfl, rfl⟩
    | false =>
      have hp0 := of_decide_eq_false hd
      ((conv => whnf); repeat (first | (apply load_at; (conv => lhs; whnf); (with_reducible assumption); rfl; (conv => whnf)) | (apply load_at; (conv => lhs; rw [add_plain, add_plain]); (with_reducible assumption); rfl; (conv => whnf)) | (apply loads_at; (conv => lhs; whnf); (with_reducible assumption); rfl; (conv => whnf)) | (refine ⟨⟨by omega, by omega⟩, ?_⟩; (conv => whnf))))
      refine load_step c0 ?_
      ((conv => whnf); repeat (first | (apply load_at; (conv => lhs; whnf); (with_reducible assumption); rfl; (conv => whnf)) | (apply load_at; (conv => lhs; rw [add_plain, add_plain]); (with_reducible assumption); rfl; (conv => whnf)) | (apply loads_at; (conv => lhs; whnf); (with_reducible assumption); rfl; (conv => whnf)) | (refine ⟨⟨by omega, by omega⟩, ?_⟩; (conv => whnf))))
      refine call_of kP ?_
      rintro v F ⟨rfl, rfl⟩
      ((conv => whnf); repeat (first | (apply load_at; (conv => lhs; whnf); (with_reducible assumption); rfl; (conv => whnf)) | (apply load_at; (conv => lhs; rw [add_plain, add_plain]); (with_reducible assumption); rfl; (conv => whnf)) | (apply loads_at; (conv => lhs; whnf); (with_reducible assumption); rfl; (conv => whnf)) | (refine ⟨⟨by omega, by omega⟩, ?_⟩; (conv => whnf))))
      refine ⟨Ext.refl _, ?_⟩
      ((conv => whnf); repeat (first | (apply load_at; (conv => lhs; whnf); (with_reducible assumption); rfl; (conv => whnf)) | (apply load_at; (conv => lhs; rw [add_plain, add_plain]); (with_reducible assumption); rfl; (conv => whnf)) | (apply loads_at; (conv => lhs; whnf); (with_reducible assumption); rfl; (conv => whnf)) | (refine ⟨⟨by omega, by omega⟩, ?_⟩; (conv => whnf))))
      refine ⟨Ext.refl _, ?_⟩
      ((conv => whnf); repeat (first | (apply load_at; (conv => lhs; whnf); (with_reducible assumption); rfl; (conv => whnf)) | (apply load_at; (conv => lhs; rw [add_plain, add_plain]); (with_reducible assumption); rfl; (conv => whnf)) | (apply loads_at; (conv => lhs; whnf); (with_reducible assumption); rfl; (conv => whnf)) | (refine ⟨⟨by omega, by omega⟩, ?_⟩; (conv => whnf))))
      cases hd2 : decide (pat ≥ P) with
      | true =>
        have hp1 := of_decide_eq_true hd2
        have hres := b1 (by rintro ⟨e, _⟩; have := of_decide_eq_true e; omega)
        subst hres
        ((conv => whnf); repeat (first | (apply load_at; (conv => lhs; whnf); (with_reducible assumption); rfl; (conv => whnf)) | (apply load_at; (conv => lhs; rw [add_plain, add_plain]); (with_reducible assumption); rfl; (conv => whnf)) | (apply loads_at; (conv => lhs; whnf); (with_reducible assumption); rfl; (conv => whnf)) | (refine ⟨⟨by omega, by omega⟩, ?_⟩; (conv => whnf))))
        exact ⟨rfl, rfl⟩
      | false =>
        have hp1 := of_decide_eq_false hd2
        ((conv => whnf); repeat (first | (apply load_at; (conv => lhs; whnf); (with_reducible assumption); rfl; (conv => whnf)) | (apply load_at; (conv => lhs; rw [add_plain, add_plain]); (with_reducible assumption); rfl; (conv => whnf)) | (apply loads_at; (conv => lhs; whnf); (with_reducible assumption); rfl; (conv => whnf)) | (refine ⟨⟨by omega, by omega⟩, ?_⟩; (conv => whnf))))
        refine load_step c1 ?_
        ((conv => whnf); repeat (first | (apply load_at; (conv => lhs; whnf); (with_reducible assumption); rfl; (conv => whnf)) | (apply load_at; (conv => lhs; rw [add_plain, add_plain]); (with_reducible assumption); rfl; (conv => whnf)) | (apply loads_at; (conv => lhs; whnf); (with_reducible assumption); rfl; (conv => whnf)) | (refine ⟨⟨by omega, by omega⟩, ?_⟩; (conv => whnf))))
        refine cond_split (fun h => ?_) (fun h => ?_)
        · have hq : ¬ pl.length = 240 := by
            have h : ((pl.length : Int) != 240) = true := h
            simp only [bne_iff_ne, ne_eq] at h
            omega
          have hres := b1 (fun e => hq e.2)
          subst hres
          ((conv => whnf); repeat (first | (apply load_at; (conv => lhs; whnf); (with_reducible assumption); rfl; (conv => whnf)) | (apply load_at; (conv => lhs; rw [add_plain, add_plain]); (with_reducible assumption); rfl; (conv => whnf)) | (apply loads_at; (conv => lhs; whnf); (with_reducible assumption); rfl; (conv => whnf)) | (refine ⟨⟨by omega, by omega⟩, ?_⟩; (conv => whnf))))
          exact ⟨rfl, rfl⟩
        have hq : pl.length = 240 := by
          have h : ((pl.length : Int) != 240) = false := h
          simp only [bne_eq_false_iff_eq] at h
          omega
        clear h
        ((conv => whnf); repeat (first | (apply load_at; (conv => lhs; whnf); (with_reducible assumption); rfl; (conv => whnf)) | (apply load_at; (conv => lhs; rw [add_plain, add_plain]); (with_reducible assumption); rfl; (conv => whnf)) | (apply loads_at; (conv => lhs; whnf); (with_reducible assumption); rfl; (conv => whnf)) | (refine ⟨⟨by omega, by omega⟩, ?_⟩; (conv => whnf))))
        refine loop_slots [0, 1, 5, 6] (fun k2 vs F' => ∃ j : Nat, j + k2 = i ∧ vs = [.pointer (some ⟨lb, 0, none⟩), .slice (some ad) ims.length c, .int .i64 (i : Int), .int .i64 (j : Int)] ∧ F' = F ∧ (∀ m, m < j → ∀ x : PcR, ims[m]? = some x → x.at_ ≠ pat)) i ⟨0, by omega, rfl, rfl, fun m h => by omega⟩ ?_
        rintro k2 vs F ρ2 ⟨j, hjk, rfl, rfl, g3⟩
        ((conv => whnf); repeat (first | (apply load_at; (conv => lhs; whnf); (with_reducible assumption); rfl; (conv => whnf)) | (apply load_at; (conv => lhs; rw [add_plain, add_plain]); (with_reducible assumption); rfl; (conv => whnf)) | (apply loads_at; (conv => lhs; whnf); (with_reducible assumption); rfl; (conv => whnf)) | (refine ⟨⟨by omega, by omega⟩, ?_⟩; (conv => whnf))))
        refine cond_split (fun h => ?_) (fun h => ?_)
        · have hj : j < i := by
            have h : decide ((j : Int) < (i : Int)) = true := h
            have := of_decide_eq_true h
            omega
          have hxj : ims[j]? = some ims[j] := List.getElem?_eq_getElem (by omega)
          obtain ⟨ad', e, d0, _⟩ := hcel j _ hxj
          obtain rfl : ad = ad' := Option.some.inj e
          have b2 := hbad2 i j hj _ _ hxj hx
          have g4 : ∀ m, m < j + 1 → ims[j].at_ ≠ pat → ∀ x : PcR, ims[m]? = some x → x.at_ ≠ pat := fun m hm hne x hxm => by
            by_cases e2 : m = j
            · subst e2
              rw [hxj] at hxm
              cases hxm
              exact hne
            · exact g3 m (by omega) x hxm
          generalize ims[j] = y at d0 b2 g4
          obtain ⟨yat, yl, yA, yc⟩ := y
          dsimp only at d0 b2 g4
          ((conv => whnf); repeat (first | (apply load_at; (conv => lhs; whnf); (with_reducible assumption); rfl; (conv => whnf)) | (apply load_at; (conv => lhs; rw [add_plain, add_plain]); (with_reducible assumption); rfl; (conv => whnf)) | (apply loads_at; (conv => lhs; whnf); (with_reducible assumption); rfl; (conv => whnf)) | (refine ⟨⟨by omega, by omega⟩, ?_⟩; (conv => whnf))))
          refine draw_walk tab_ok (by kernel_rfl) [0, 1, 2, 3, 4, 5, 6, 7, 8, 9, 10] (by kernel_rfl) ?_
          ((conv => whnf); repeat (first | (apply load_at; (conv => lhs; whnf); (with_reducible assumption); rfl; (conv => whnf)) | (apply load_at; (conv => lhs; rw [add_plain, add_plain]); (with_reducible assumption); rfl; (conv => whnf)) | (apply loads_at; (conv => lhs; whnf); (with_reducible assumption); rfl; (conv => whnf)) | (refine ⟨⟨by omega, by omega⟩, ?_⟩; (conv => whnf))))
          refine load_step d0 ?_
          ((conv => whnf); repeat (first | (apply load_at; (conv => lhs; whnf); (with_reducible assumption); rfl; (conv => whnf)) | (apply load_at; (conv => lhs; rw [add_plain, add_plain]); (with_reducible assumption); rfl; (conv => whnf)) | (apply loads_at; (conv => lhs; whnf); (with_reducible assumption); rfl; (conv => whnf)) | (refine ⟨⟨by omega, by omega⟩, ?_⟩; (conv => whnf))))
          refine load_step c0 ?_
          ((conv => whnf); repeat (first | (apply load_at; (conv => lhs; whnf); (with_reducible assumption); rfl; (conv => whnf)) | (apply load_at; (conv => lhs; rw [add_plain, add_plain]); (with_reducible assumption); rfl; (conv => whnf)) | (apply loads_at; (conv => lhs; whnf); (with_reducible assumption); rfl; (conv => whnf)) | (refine ⟨⟨by omega, by omega⟩, ?_⟩; (conv => whnf))))
          refine cond_split (fun h => ?_) (fun h => ?_)
          · have he : yat = pat := by
              have h : (yat == pat) = true := h
              simpa using h
            have hres := b2 he
            subst hres
            ((conv => whnf); repeat (first | (apply load_at; (conv => lhs; whnf); (with_reducible assumption); rfl; (conv => whnf)) | (apply load_at; (conv => lhs; rw [add_plain, add_plain]); (with_reducible assumption); rfl; (conv => whnf)) | (apply loads_at; (conv => lhs; whnf); (with_reducible assumption); rfl; (conv => whnf)) | (refine ⟨⟨by omega, by omega⟩, ?_⟩; (conv => whnf))))
            exact ⟨rfl, rfl⟩
          · have he : yat ≠ pat := by
              have h : (yat == pat) = false := h
              simpa using h
            ((conv => whnf); repeat (first | (apply load_at; (conv => lhs; whnf); (with_reducible assumption); rfl; (conv => whnf)) | (apply load_at; (conv => lhs; rw [add_plain, add_plain]); (with_reducible assumption); rfl; (conv => whnf)) | (apply loads_at; (conv => lhs; whnf); (with_reducible assumption); rfl; (conv => whnf)) | (refine ⟨⟨by omega, by omega⟩, ?_⟩; (conv => whnf))))
            refine ⟨k2 - 1, by omega, j + 1, by omega, ?_, rfl, fun m hm => g4 m hm he⟩
            rw [← wrap_succ (j := j) (by omega)]
            rfl
        · have hj : j = i := by have := of_decide_eq_false h; omega
          subst hj
          ((conv => whnf); repeat (first | (apply load_at; (conv => lhs; whnf); (with_reducible assumption); rfl; (conv => whnf)) | (apply load_at; (conv => lhs; rw [add_plain, add_plain]); (with_reducible assumption); rfl; (conv => whnf)) | (apply loads_at; (conv => lhs; whnf); (with_reducible assumption); rfl; (conv => whnf)) | (refine ⟨⟨by omega, by omega⟩, ?_⟩; (conv => whnf))))
          refine ⟨k - 1, by omega, j + 1, by omega, ?_, rfl, fun m p hm hp => ?_, fun m k' hk hm x y hx2 hy => ?_⟩
          · rw [← wrap_succ (j := j) (by omega)]
            rfl
          · by_cases e2 : m = j
            · subst e2
              rw [hx] at hp
              cases hp
              refine ⟨?_, hq⟩
              rw [hPg]
              exact decide_eq_true (by show 0 ≤ pat ∧ pat < P; omega)
            · exact g1 m p (by omega) hp
          · by_cases e2 : m = j
            · subst e2
              rw [hx] at hy
              cases hy
              exact g3 k' hk x hx2
            · exact g2 m k' hk (by omega) x y hx2 hy
  · have hi : i = ims.length := by
      have := of_decide_eq_false h
      omega
    subst hi
    have := hgood (fun j p hj => g1 j p (List.getElem?_eq_some_iff.1 hj).1 hj) (fun j k hkj x y hx hy => g2 j k hkj (List.getElem?_eq_some_iff.1 hy).1 x y hx hy)
    subst this
    ((conv => whnf); repeat (first | (apply load_at; (conv => lhs; whnf); (with_reducible assumption); rfl; (conv => whnf)) | (apply load_at; (conv => lhs; rw [add_plain, add_plain]); (with_reducible assumption); rfl; (conv => whnf)) | (apply loads_at; (conv => lhs; whnf); (with_reducible assumption); rfl; (conv => whnf)) | (refine ⟨⟨by omega, by omega⟩, ?_⟩; (conv => whnf))))
    exact ⟨rfl, rfl⟩
end Go.Proofs.YtmpiggcooboenaaDoor.Al
/- The reference's log: Commit. -/
namespace Go.Proofs.YtmpiggcooboenaaDoor.Al
open Go Go.Al Go.Proofs Go.RowKit
set_option maxHeartbeats 8000000
set_option maxRecDepth 100000
set_option linter.unusedVariables false
set_option linter.unusedSimpArgs false
/-- What is known but for a part. -/
def restH (E F : Heap) : Heap := fun c => match E c with | none => F c | some _ => none
theorem restH_ext (E F : Heap) : Ext (restH E F) F := fun c o hc => by
  unfold restH at hc
  split at hc
  · exact hc
  · cases hc
theorem restH_apart (E F : Heap) : Apart E (restH E F) := fun c hc => by
  unfold restH
  cases e : E c with
  | none => exact absurd e hc
  | some o => rfl
theorem restH_row {E F : Heap} {A : Option Addr} {vs : List Value} (hr : RowAt F A vs) (h : ∀ a, A = some a → E a.block = none) : RowAt (restH E F) A vs := fun j v hj => by
  obtain ⟨a, e, hc⟩ := hr j v hj
  refine ⟨a, e, ?_⟩
  have hb : (restH E F) (a.add j).block = F (a.add j).block := by
    unfold restH
    rw [show (a.add j).block = a.block by unfold Addr.add; split <;> rfl, h a e]
  unfold Heap.cell? at hc ⊢
  rw [hb]
  exact hc
theorem restH_keep {E R F : Heap} (hR : Ext R F) (hA : Apart E R) : Ext R (restH E F) := fun c o hc => by
  unfold restH
  cases e : E c with
  | none => exact hR _ _ hc
  | some u => rw [hA c (by rw [e]; simp)] at hc; cases hc
/-- A log's part of memory. -/
def Rg (E : Heap) (lb b : Nat) (r : RS) (q : Int) : Prop := ∃ D, Rk D b r ∧ D lb = none ∧ E = D.put lb (rgO b q) ∧ 0 ≤ q ∧ q ≤ 4611686018427387904
theorem rwriteE_len {r : RS} {i : Int} {l : List UInt8} (h : rwriteE r i l = 0) : l.length = 256 := by
  unfold rwriteE at h
  split at h
  · cases h
  split at h
  · cases h
  · next h2 => simp at h2; exact h2.2
theorem rrun_seq {r : RS} {n q : Int} {ps : List (Int × List UInt8)} (h0 : ps.length ≠ 0) (h : (runW rsO r (logW n q 0 ps)).2 = 0) (m : Nat) (hm : m ≤ 100000) : secR (m : Int) q = true := by
  cases ps with
  | nil => exact absurd rfl h0
  | cons p ps =>
    have h : (if rwriteE r (slotI n ((0 : Nat) : Int)) (packB p.1 q p.2) = 0 then runW rsO (rwriteS r (slotI n ((0 : Nat) : Int)) (packB p.1 q p.2)) (logW n q 1 ps) else (rwriteS r (slotI n ((0 : Nat) : Int)) (packB p.1 q p.2), rwriteE r (slotI n ((0 : Nat) : Int)) (packB p.1 q p.2))).2 = 0 := h
    split at h
    · next e =>
      have := packY_of (rwriteE_len e)
      unfold packY secR at this
      simp only [Bool.and_eq_true, decide_eq_true_eq] at this
      unfold secR inM
      rw [show Nat.beq 4 8 = false by decide, cond_false, show ((256 ^ 4 : Nat) : Int) = 4294967296 by decide]
      simp only [Bool.and_eq_true, decide_eq_true_eq]
      exact ⟨by omega, this.1.2.1, this.1.2.2⟩
    · next e => exact absurd h e
theorem TwoM.moves {R F1 F2 G D1 D2 : Heap} {S T : Value} {e1 z1 n1 e2 z2 n2 : Nat} {xs ys : List Value} (h : TwoM R F1 S T e1 z1 n1 xs e2 z2 n2 ys G) (hM : Moves D1 F1 D2 F2) (hRa : Apart D1 R) (hGa : Apart D1 G) (hS : ∀ k, blk S = some k → D1 k = none) (hT : ∀ k, blk T = some k → D1 k = none) :
    TwoM R F2 S T e1 z1 n1 xs e2 z2 n2 ys G ∧ Apart D2 R ∧ Apart D2 G ∧ (∀ k, blk S = some k → D2 k = none) ∧ ∀ k, blk T = some k → D2 k = none := by
  have key : ∀ k, D1 k = none → F1 k ≠ none → D2 k = none := fun k hk hf => by
    cases e : D2 k with
    | none => rfl
    | some o =>
      rcases hM.new k (by rw [e]; simp) with x | x
      · exact absurd hk x
      · exact absurd x hf
  refine ⟨⟨⟨h.s.own.of_blk fun k o hk ho => hM.out k o ho (hS k hk), h.s.fresh, hM.keep h.s.ext hRa⟩, ⟨h.t.own.of_blk fun k o hk ho => hM.out k o ho (hT k hk), h.t.fresh, hM.keep h.t.ext hRa⟩, h.ne, hM.keep h.base hGa, h.outS, h.outT⟩, hM.apart h.s.ext hRa, hM.apart h.base hGa, fun k hk => key k (hS k hk) (h.s.own.there hk), fun k hk => key k (hT k hk) (h.t.own.there hk)⟩
/-- Two rows of the call's own beside a part of memory that moves. -/
structure St (R F D F1 D2 : Heap) (S T : Value) (e1 z1 n1 : Nat) (xs : List Value) (e2 z2 n2 : Nat) (ys : List Value) (G : Heap) : Prop where
  tm : TwoM R F1 S T e1 z1 n1 xs e2 z2 n2 ys G
  mv : Moves D F D2 F1
  ga : Apart D2 G
  ra : Apart D2 R
  s2 : ∀ k, blk S = some k → D2 k = none
  t2 : ∀ k, blk T = some k → D2 k = none
  sf : ∀ k, blk S = some k → F k = none ∨ D k ≠ none
  tf : ∀ k, blk T = some k → F k = none ∨ D k ≠ none
  gl : ∀ c o, F c = some o → D c = none → R c = none → G c = none
section
variable {R F D F1 F2 D2 D3 G : Heap} {S T S2 : Value} {e1 z1 n1 e2 z2 n2 m1 : Nat} {xs ys us : List Value}
theorem St.grow (h : St R F D F1 D2 S T e1 z1 n1 xs e2 z2 n2 ys G) (hE : Ext F1 F2) : St R F D F2 D2 S T e1 z1 n1 xs e2 z2 n2 ys (gain G F1 F2) := by
  refine ⟨h.tm.grow hE, h.mv.trans (Moves.ext h.mv.inn hE), fun c hc => ?_, h.ra, h.s2, h.t2, h.sf, h.tf, fun c o hc hd hr => by rw [gain_old (h.mv.out _ _ hc hd)]; exact h.gl c o hc hd hr⟩
  cases e : D2 c with
  | none => exact absurd e hc
  | some o => rw [gain_old (h.mv.inn _ _ e)]; exact h.ga c hc
theorem St.pushS (h : St R F D F1 D2 S T e1 z1 n1 xs e2 z2 n2 ys G) (hO : Own F2 S2 e1 z1 m1 us) (hk : Keeps F1 F2 (blk S)) (hf : ∀ b, blk S2 = some b → blk S = some b ∨ F1 b = none) : St R F D F2 D2 S2 T e1 z1 m1 us e2 z2 n2 ys G := by
  refine ⟨h.tm.pushS hO hk hf, ⟨fun c o hc => ?_, fun c o hc hn => ?_, h.mv.new⟩, h.ga, h.ra, fun k hk' => ?_, h.t2, fun k hk' => ?_, h.tf, h.gl⟩
  · exact hk c o (h.mv.inn _ _ hc) fun e => by rw [h.s2 c e] at hc; cases hc
  · refine hk c o (h.mv.out _ _ hc hn) fun e => ?_
    rcases h.sf c e with x | x
    · rw [x] at hc; cases hc
    · exact x hn
  · rcases hf k hk' with e | e
    · exact h.s2 k e
    · exact h.mv.inn.none e
  · rcases hf k hk' with e | e
    · exact h.sf k e
    · cases hF : F k with
      | none => exact .inl rfl
      | some o =>
        refine .inr fun hn => ?_
        rw [h.mv.out _ _ hF hn] at e
        cases e
theorem St.swap (h : St R F D F1 D2 S T e1 z1 n1 xs e2 z2 n2 ys G) : St R F D F1 D2 T S e2 z2 n2 ys e1 z1 n1 xs G := ⟨h.tm.swap, h.mv, h.ga, h.ra, h.t2, h.s2, h.tf, h.sf, h.gl⟩
theorem St.moves (h : St R F D F1 D2 S T e1 z1 n1 xs e2 z2 n2 ys G) (hM : Moves D2 F1 D3 F2) : St R F D F2 D3 S T e1 z1 n1 xs e2 z2 n2 ys G := by
  obtain ⟨k1, k2, k3, k4, k5⟩ := h.tm.moves hM h.ra h.ga h.s2 h.t2
  exact ⟨k1, h.mv.trans hM, k3, k2, k4, k5, h.sf, h.tf, h.gl⟩
end
theorem new_gain {G F F' : Heap} {b : Nat} {cs : Array Value} {e : TypeId} (h0 : F b = none) (hB : F' b = some (.cells cs e)) (hG : G b = none) : RowAt (gain G F F') (some ⟨b, 0, none⟩) cs.toList := rowAt_gain (row_blk hB) fun a ha => by
  cases ha
  exact h0
end Go.Proofs.YtmpiggcooboenaaDoor.Al
/- The reference's log: Commit. -/
namespace Go.Proofs.YtmpiggcooboenaaDoor.Al
open Go Go.Al Go.Proofs Go.RowKit
set_option maxHeartbeats 8000000
set_option maxRecDepth 100000
set_option linter.unusedVariables false
set_option linter.unusedSimpArgs false
theorem rgCommit {E F R : Heap} {b lb : Nat} {r : RS} {q : Int} (hE : Ext E F) (hL : Rg E lb b r q) (hR : Ext R F) (hA : Apart E R) (ims : List PcR) (A : Option Addr) (c : Nat) (hr : RowAt R A (rowS pcC ims)) (hp : ∀ p ∈ ims, PcOk R p) (hw : r.done + 200000 < 1000000000) (hl : ims.length ≤ 100000) :
    FnK Tryd.prog 42 #[.pointer (some ⟨lb, 0, none⟩), .slice A ims.length c] F (fun v F' => v = .int .i64 (commitS rsO r q (ims.map pcW)).2.1 ∧ ∃ E', Moves E F E' F' ∧ Rg E' lb b (commitS rsO r q (ims.map pcW)).1 (commitS rsO r q (ims.map pcW)).2.2) := by
  obtain ⟨D, hD, hdl, rfl, hq0, hq1⟩ := hL
  have hDE : Ext D F := ((Ext.refl D).put hdl _).trans hE
  have hlg : F lb = some (rgO b q) := hE _ _ (Heap.put_same _ _ _)
  have hAD : Apart D R := hA.mono ((Ext.refl D).put hdl _)
  have hRl : R lb = none := hA lb (by rw [Heap.put_same]; simp)
  have k1 := rgPages hDE hD hlg
  have k2 := rgRight hDE hD hlg ims A c (hr.mono hR) hl
  obtain ⟨N, hN⟩ : ∃ N : Nat, N = r.L.length := ⟨_, rfl⟩
  have hle := pagesN_le (N : Int)
  have hC : commitS rsO r q (ims.map pcW) = if (ims.length : Int) > pagesN (N : Int) then (r, 6, q) else
    if rightL (N : Int) (ims.map pcW) [] = false then (r, 1, q) else
    if ims.length = 0 then (r, 0, q) else
    if (runW rsO r (logW (N : Int) (q + 1) 0 (ims.map pcW))).2 ≠ 0 then ((runW rsO r (logW (N : Int) (q + 1) 0 (ims.map pcW))).1, (runW rsO r (logW (N : Int) (q + 1) 0 (ims.map pcW))).2, q) else
    if (runW rsO (runW rsO r (logW (N : Int) (q + 1) 0 (ims.map pcW))).1 [(0, noteB ims.length (q + 1))]).2 ≠ 0 then ((runW rsO (runW rsO r (logW (N : Int) (q + 1) 0 (ims.map pcW))).1 [(0, noteB ims.length (q + 1))]).1, (runW rsO (runW rsO r (logW (N : Int) (q + 1) 0 (ims.map pcW))).1 [(0, noteB ims.length (q + 1))]).2, q) else
    ((runW rsO (runW rsO (runW rsO r (logW (N : Int) (q + 1) 0 (ims.map pcW))).1 [(0, noteB ims.length (q + 1))]).1 (homW (N : Int) (q + 1) (ims.map pcW))).1, (runW rsO (runW rsO (runW rsO r (logW (N : Int) (q + 1) 0 (ims.map pcW))).1 [(0, noteB ims.length (q + 1))]).1 (homW (N : Int) (q + 1) (ims.map pcW))).2, q + 1) := by
    unfold commitS
    rw [List.length_map, hN]
    rfl
  have hsec : ims.length ≠ 0 → (runW rsO r (logW (N : Int) (q + 1) 0 (ims.map pcW))).2 = 0 → secR (ims.length : Int) (q + 1) = true := fun h1 h2 => rrun_seq (by rw [List.length_map]; exact h1) h2 _ hl
  have hrl := rrun_le (logW (N : Int) (q + 1) 0 (ims.map pcW)) r
  rw [logW_len, List.length_map] at hrl
  rw [← hN] at k1 k2 hrl
  generalize commitS rsO r q (ims.map pcW) = cs at hC
  generalize rightL (N : Int) (ims.map pcW) [] = z at k2 hC
  have fin0 : ∀ F' s' D', Moves D F D' F' → Rk D' b s' → ∃ E', Moves (D.put lb (rgO b q)) F E' F' ∧ Rg E' lb b s' q := fun F' s' D' hM hD' => ⟨_, (moves_withB hM hdl hlg).1, D', hD', (moves_withB hM hdl hlg).2, rfl, hq0, hq1⟩
  (refine fn_walk tab_ok Tryd.func42 rfl rfl rfl rfl ?_; (conv => whnf))
  refine call_of k1 ?_
  rintro v F ⟨rfl, rfl⟩
  ((conv => whnf); repeat (first | (apply load_at; (conv => lhs; whnf); (with_reducible assumption); rfl; (conv => whnf)) | (apply load_at; (conv => lhs; rw [add_plain, add_plain]); (with_reducible assumption); rfl; (conv => whnf)) | (apply loads_at; (conv => lhs; whnf); (with_reducible assumption); rfl; (conv => whnf)) | (refine ⟨⟨by omega, by omega⟩, ?_⟩; (conv => whnf))))
  refine cond_split (fun h => ?_) (fun h => ?_)
  · have hg : (ims.length : Int) > pagesN (N : Int) := of_decide_eq_true (show decide ((ims.length : Int) > pagesN (N : Int)) = true from h)
    rw [if_pos hg] at hC
    subst hC
    ((conv => whnf); repeat (first | (apply load_at; (conv => lhs; whnf); (with_reducible assumption); rfl; (conv => whnf)) | (apply load_at; (conv => lhs; rw [add_plain, add_plain]); (with_reducible assumption); rfl; (conv => whnf)) | (apply loads_at; (conv => lhs; whnf); (with_reducible assumption); rfl; (conv => whnf)) | (refine ⟨⟨by omega, by omega⟩, ?_⟩; (conv => whnf))))
    exact ⟨rfl, fin0 _ _ D (Moves.refl hDE) hD⟩
  have hg : ¬ (ims.length : Int) > pagesN (N : Int) := of_decide_eq_false (show decide ((ims.length : Int) > pagesN (N : Int)) = false from h)
  rw [if_neg hg] at hC
  clear h
  ((conv => whnf); repeat (first | (apply load_at; (conv => lhs; whnf); (with_reducible assumption); rfl; (conv => whnf)) | (apply load_at; (conv => lhs; rw [add_plain, add_plain]); (with_reducible assumption); rfl; (conv => whnf)) | (apply loads_at; (conv => lhs; whnf); (with_reducible assumption); rfl; (conv => whnf)) | (refine ⟨⟨by omega, by omega⟩, ?_⟩; (conv => whnf))))
  refine call_of k2 ?_
  rintro v F ⟨rfl, rfl⟩
  refine short [0, 1, 25] [.pointer (some ⟨lb, 0, none⟩), .slice A ims.length c, .bool z] rfl fun ρ => ?_
  cases z with
  | false =>
    rw [if_pos rfl] at hC
    subst hC
    ((conv => whnf); repeat (first | (apply load_at; (conv => lhs; whnf); (with_reducible assumption); rfl; (conv => whnf)) | (apply load_at; (conv => lhs; rw [add_plain, add_plain]); (with_reducible assumption); rfl; (conv => whnf)) | (apply loads_at; (conv => lhs; whnf); (with_reducible assumption); rfl; (conv => whnf)) | (refine ⟨⟨by omega, by omega⟩, ?_⟩; (conv => whnf))))
    exact ⟨rfl, fin0 _ _ D (Moves.refl hDE) hD⟩
  | true =>
  rw [if_neg (by decide)] at hC
  ((conv => whnf); repeat (first | (apply load_at; (conv => lhs; whnf); (with_reducible assumption); rfl; (conv => whnf)) | (apply load_at; (conv => lhs; rw [add_plain, add_plain]); (with_reducible assumption); rfl; (conv => whnf)) | (apply loads_at; (conv => lhs; whnf); (with_reducible assumption); rfl; (conv => whnf)) | (refine ⟨⟨by omega, by omega⟩, ?_⟩; (conv => whnf))))
  refine cond_split (fun h => ?_) (fun h => ?_)
  · have hz : ims.length = 0 := by
      have h : ((ims.length : Int) == 0) = true := h
      simp only [beq_iff_eq] at h
      omega
    rw [if_pos hz] at hC
    subst hC
    ((conv => whnf); repeat (first | (apply load_at; (conv => lhs; whnf); (with_reducible assumption); rfl; (conv => whnf)) | (apply load_at; (conv => lhs; rw [add_plain, add_plain]); (with_reducible assumption); rfl; (conv => whnf)) | (apply loads_at; (conv => lhs; whnf); (with_reducible assumption); rfl; (conv => whnf)) | (refine ⟨⟨by omega, by omega⟩, ?_⟩; (conv => whnf))))
    exact ⟨rfl, fin0 _ _ D (Moves.refl hDE) hD⟩
  have hz : ¬ ims.length = 0 := by
    have h : ((ims.length : Int) == 0) = false := h
    simp only [beq_eq_false_iff_ne, ne_eq] at h
    omega
  rw [if_neg hz] at hC
  clear h
  obtain ⟨res, hres⟩ : ∃ x, x = runW rsO r (logW (N : Int) (q + 1) 0 (ims.map pcW)) := ⟨_, rfl⟩
  rw [← hres] at hC hsec hrl
  have hqw : IntKind.i64.wrap (q + 1) = q + 1 := wrap_eq (by omega) (by omega)
  have hlw : ∀ i ps, (logW (N : Int) (q + 1) i ps).length = ps.length := fun i ps => logW_len _ _ i ps
  have hlr : ∀ (i : Nat) (p : Int × List UInt8) ps, logW (N : Int) (q + 1) i (p :: ps) = (slotI (N : Int) (i : Int), packB p.1 (q + 1) p.2) :: logW (N : Int) (q + 1) (i + 1) ps := fun _ _ _ => rfl
  have hl0 : ∀ i, logW (N : Int) (q + 1) i [] = [] := fun _ => rfl
  generalize logW (N : Int) (q + 1) = lw at hres hlr hl0
  have hh : ∀ (i : Nat) (p : PcR), ims[i]? = some p → (homW (N : Int) (q + 1) (ims.map pcW)).take (i + 1) = (homW (N : Int) (q + 1) (ims.map pcW)).take i ++ [(homeI (N : Int) p.at_, packB p.at_ (q + 1) p.l)] := fun i p hp => by
    rw [List.take_add_one]
    unfold homW
    rw [List.getElem?_map, List.getElem?_map, hp]
    rfl
  have hh0 : (homW (N : Int) (q + 1) (ims.map pcW)).take ims.length = homW (N : Int) (q + 1) (ims.map pcW) := List.take_of_length_le (by unfold homW; rw [List.length_map, List.length_map]; exact Nat.le_refl _)
  generalize homW (N : Int) (q + 1) (ims.map pcW) = hw_ at hC hh hh0
  have hcel : ∀ (i : Nat) p, ims[i]? = some p → ∃ ad, A = some ad ∧ R.cell? ((ad.add (Int.toNat (i : Int) * 2)).add 0) = some (.int .i64 p.at_) ∧ R.cell? ((ad.add (Int.toNat (i : Int) * 2)).add 1) = some (.slice p.A p.l.length p.c) := fun i p hp => by
    obtain ⟨ad, rfl⟩ := hr.some (by have := (List.getElem?_eq_some_iff.1 hp).1; rw [rowS_len pcC_len]; omega)
    exact ⟨ad, rfl, rowS_cell pcC_len hr hp rfl, rowS_cell pcC_len hr hp rfl⟩
  have il : ims.length ≤ 32768 := by omega
  ((conv => whnf); repeat (first | (apply load_at; (conv => lhs; whnf); (with_reducible assumption); rfl; (conv => whnf)) | (apply load_at; (conv => lhs; rw [add_plain, add_plain]); (with_reducible assumption); rfl; (conv => whnf)) | (apply loads_at; (conv => lhs; whnf); (with_reducible assumption); rfl; (conv => whnf)) | (refine ⟨⟨by omega, by omega⟩, ?_⟩; (conv => whnf))))
  rw [hqw]
  refine loop_slots [0, 1, 5, 6, 7, 8] (fun k vs F' => ∃ (i : Nat) (r1 : RS) (D1 : Heap) (S T : Value) (rs : List RpR) (G : Heap), i + k = ims.length ∧ rs.length = i ∧ vs = [.pointer (some ⟨lb, 0, none⟩), .slice A ims.length c, .int .i64 (q + 1), S, T, .int .i64 (i : Int)] ∧ St R F D F' D1 S T 49 1 rs.length (rs.map rbV) 3 1 rs.length (rs.map riV) G ∧ Rk D1 b r1 ∧ r1.L.length = N ∧ r1.done + k + 100000 < 1000000000 ∧ (∀ p ∈ rs, RpOk G p) ∧ rs.map (rhW (N : Int)) = hw_.take i ∧ res = runW rsO r1 (lw i ((ims.drop i).map pcW))) ims.length ⟨0, r, D, .slice none 0 0, .slice none 0 0, [], R, by omega, rfl, rfl, ⟨⟨Mine.nil _ _ _ _ hR, Mine.nil _ _ _ _ hR, (fun k h => by cases h), hR, (fun k h => by cases h), fun k h => by cases h⟩, Moves.refl hDE, hAD, hAD, (fun k h => by cases h), (fun k h => by cases h), (fun k h => by cases h), (fun k h => by cases h), fun c o _ _ hr => hr⟩, hD, hN.symm, by omega, (fun p h => by cases h), rfl, hres⟩ ?_
  rintro k vs F1 ρ ⟨i, r1, D1, S, T, rs, G, hik, hri, rfl, st1, hD1, hn1, hw1, hok, hhw, hrs⟩
  have hlg1 := st1.mv.out _ _ hlg hdl
  have hR1 := st1.tm.s.ext
  ((conv => whnf); repeat (first | (apply load_at; (conv => lhs; whnf); (with_reducible assumption); rfl; (conv => whnf)) | (apply load_at; (conv => lhs; rw [add_plain, add_plain]); (with_reducible assumption); rfl; (conv => whnf)) | (apply loads_at; (conv => lhs; whnf); (with_reducible assumption); rfl; (conv => whnf)) | (refine ⟨⟨by omega, by omega⟩, ?_⟩; (conv => whnf))))
  refine cond_split (fun h => ?_) (fun h => ?_)
  · have hi : i < ims.length := by
      have h : decide ((i : Int) < (ims.length : Int)) = true := h
      have := of_decide_eq_true h
      omega
    have hx : ims[i]? = some ims[i] := List.getElem?_eq_getElem hi
    have hpk := (hp _ (List.getElem_mem hi)).mono hR1
    rw [List.drop_eq_getElem_cons hi, List.map_cons, hlr, runW_cons] at hrs
    have hh1 := hh i _ hx
    obtain ⟨ad, rfl, c0, c1⟩ := hcel i _ hx
    have c0R := c0
    replace c0 := hR1.cell c0
    replace c1 := hR1.cell c1
    generalize ims[i] = p at hpk hrs hh1 c0 c1 c0R
    obtain ⟨pat, pl, pA, pc⟩ := p
    dsimp only at c0 c1 c0R
    have hpr : RowAt F1 pA (bytesOf pl) := hpk.row
    have hpl : pl.length ≤ 900000 := hpk.len
    have kp := rpack pat (q + 1) pl pA pc F1 hpr hpl
    have hpb := packB_le pat (q + 1) pl
    obtain ⟨hle1, hln⟩ := rw_le r1 (slotI (N : Int) (i : Int)) (packB pat (q + 1) pl)
    replace hrs : res = if rwriteE r1 (slotI (N : Int) (i : Int)) (packB pat (q + 1) pl) = 0 then runW rsO (rwriteS r1 (slotI (N : Int) (i : Int)) (packB pat (q + 1) pl)) (lw (i + 1) ((ims.drop (i + 1)).map pcW)) else (rwriteS r1 (slotI (N : Int) (i : Int)) (packB pat (q + 1) pl), rwriteE r1 (slotI (N : Int) (i : Int)) (packB pat (q + 1) pl)) := hrs
    replace hh1 : hw_.take (i + 1) = hw_.take i ++ [(homeI (N : Int) pat, packB pat (q + 1) pl)] := hh1
    generalize packB pat (q + 1) pl = pb at kp hpb hle1 hln hrs hh1
    generalize packE pat (q + 1) pl = pe at kp
    have ks := fun F => rslot (N : Int) (i : Int) F
    have kw := fun F R A c (hE : Ext D1 F) (hR : Ext R F) hA hr => rwrite hE hD1 hR hA pb A c hr (by omega) (slotI (N : Int) (i : Int)) (by omega)
    generalize slotI (N : Int) (i : Int) = si at ks kw hrs hle1 hln
    generalize isPg (N : Int) (i : Int) = zi at ks
    generalize rwriteS r1 si pb = r2 at kw hrs hle1 hln
    generalize rwriteE r1 si pb = e2 at kw hrs
    obtain ⟨q', hb⟩ := rk_cell hD1
    rw [hn1] at hb
    ((conv => whnf); repeat (first | (apply load_at; (conv => lhs; whnf); (with_reducible assumption); rfl; (conv => whnf)) | (apply load_at; (conv => lhs; rw [add_plain, add_plain]); (with_reducible assumption); rfl; (conv => whnf)) | (apply loads_at; (conv => lhs; whnf); (with_reducible assumption); rfl; (conv => whnf)) | (refine ⟨⟨by omega, by omega⟩, ?_⟩; (conv => whnf))))
    refine draw_tree tab_ok (by kernel_rfl) [] (DT.row [0, 1, 2, 3, 4, 5, 6, 7, 8, 9, 10, 11, 12, 13, 14, 15, 16] .nil) (by kernel_rfl) ?_
    ((conv => whnf); repeat (first | (apply load_at; (conv => lhs; whnf); (with_reducible assumption); rfl; (conv => whnf)) | (apply load_at; (conv => lhs; rw [add_plain, add_plain]); (with_reducible assumption); rfl; (conv => whnf)) | (apply loads_at; (conv => lhs; whnf); (with_reducible assumption); rfl; (conv => whnf)) | (refine ⟨⟨by omega, by omega⟩, ?_⟩; (conv => whnf))))
    refine load_step c0 ?_
    ((conv => whnf); repeat (first | (apply load_at; (conv => lhs; whnf); (with_reducible assumption); rfl; (conv => whnf)) | (apply load_at; (conv => lhs; rw [add_plain, add_plain]); (with_reducible assumption); rfl; (conv => whnf)) | (apply loads_at; (conv => lhs; whnf); (with_reducible assumption); rfl; (conv => whnf)) | (refine ⟨⟨by omega, by omega⟩, ?_⟩; (conv => whnf))))
    refine load_step c1 ?_
    ((conv => whnf); repeat (first | (apply load_at; (conv => lhs; whnf); (with_reducible assumption); rfl; (conv => whnf)) | (apply load_at; (conv => lhs; rw [add_plain, add_plain]); (with_reducible assumption); rfl; (conv => whnf)) | (apply loads_at; (conv => lhs; whnf); (with_reducible assumption); rfl; (conv => whnf)) | (refine ⟨⟨by omega, by omega⟩, ?_⟩; (conv => whnf))))
    refine call_of kp ?_
    rintro v F2 ⟨u, rfl, ⟨B, bc, rfl, hbc, hbr, hbf⟩, hE2⟩
    refine ⟨hE2, ?_⟩
    have st2 := st1.grow hE2
    have x2 := gain_ext (F' := F2) st1.tm.base
    have hpb2 : RowAt (gain G F1 F2) B (bytesOf pb) := rowAt_gain hbr hbf
    replace hb := st2.mv.inn _ _ hb
    have hlg2 := hE2 _ _ hlg1
    have c02 := hE2.cell c0
    generalize gain G F1 F2 = G2 at st2 x2 hpb2
    ((conv => whnf); repeat (first | (apply load_at; (conv => lhs; whnf); (with_reducible assumption); rfl; (conv => whnf)) | (apply load_at; (conv => lhs; rw [add_plain, add_plain]); (with_reducible assumption); rfl; (conv => whnf)) | (apply loads_at; (conv => lhs; whnf); (with_reducible assumption); rfl; (conv => whnf)) | (refine ⟨⟨by omega, by omega⟩, ?_⟩; (conv => whnf))))
    refine call_of (ks F2) ?_
    rintro v F2 ⟨rfl, rfl⟩
    refine short [0, 1, 5, 6, 7, 8, 9, 67] [.pointer (some ⟨lb, 0, none⟩), .slice (some ad) ims.length c, .int .i64 (q + 1), S, T, .int .i64 (i : Int), .slice B pb.length bc, .tuple #[.int .i64 si, .bool zi]] rfl fun ρ => ?_
    ((conv => whnf); repeat (first | (apply load_at; (conv => lhs; whnf); (with_reducible assumption); rfl; (conv => whnf)) | (apply load_at; (conv => lhs; rw [add_plain, add_plain]); (with_reducible assumption); rfl; (conv => whnf)) | (apply loads_at; (conv => lhs; whnf); (with_reducible assumption); rfl; (conv => whnf)) | (refine ⟨⟨by omega, by omega⟩, ?_⟩; (conv => whnf))))
    refine call_of (kw F2 G2 B bc st2.mv.inn st2.tm.base st2.ga hpb2) ?_
    rintro v F3 ⟨rfl, D3, hM3, hD3⟩
    have st3 := st2.moves hM3
    refine short [0, 1, 5, 6, 7, 8, 9, 76] [.pointer (some ⟨lb, 0, none⟩), .slice (some ad) ims.length c, .int .i64 (q + 1), S, T, .int .i64 (i : Int), .slice B pb.length bc, .int .i64 e2] rfl fun ρ => ?_
    ((conv => whnf); repeat (first | (apply load_at; (conv => lhs; whnf); (with_reducible assumption); rfl; (conv => whnf)) | (apply load_at; (conv => lhs; rw [add_plain, add_plain]); (with_reducible assumption); rfl; (conv => whnf)) | (apply loads_at; (conv => lhs; whnf); (with_reducible assumption); rfl; (conv => whnf)) | (refine ⟨⟨by omega, by omega⟩, ?_⟩; (conv => whnf))))
    refine cond_split (fun h => ?_) (fun h => ?_)
    · have he : ¬ e2 = 0 := by
        have h : (e2 != 0) = true := h
        simpa using h
      rw [if_neg he] at hrs
      rw [hrs, if_pos he] at hC
      subst hC
      ((conv => whnf); repeat (first | (apply load_at; (conv => lhs; whnf); (with_reducible assumption); rfl; (conv => whnf)) | (apply load_at; (conv => lhs; rw [add_plain, add_plain]); (with_reducible assumption); rfl; (conv => whnf)) | (apply loads_at; (conv => lhs; whnf); (with_reducible assumption); rfl; (conv => whnf)) | (refine ⟨⟨by omega, by omega⟩, ?_⟩; (conv => whnf))))
      exact ⟨rfl, fin0 _ _ D3 st3.mv hD3⟩
    have he : e2 = 0 := by
      have h : (e2 != 0) = false := h
      simpa using h
    rw [if_pos he] at hrs
    clear h
    have c03 := st3.tm.s.ext.cell c0R
    ((conv => whnf); repeat (first | (apply load_at; (conv => lhs; whnf); (with_reducible assumption); rfl; (conv => whnf)) | (apply load_at; (conv => lhs; rw [add_plain, add_plain]); (with_reducible assumption); rfl; (conv => whnf)) | (apply loads_at; (conv => lhs; whnf); (with_reducible assumption); rfl; (conv => whnf)) | (refine ⟨⟨by omega, by omega⟩, ?_⟩; (conv => whnf))))
    refine draw_cut (fun env' F' => ∃ S' T' G', [0, 1, 5, 6, 7, 8].map env' = [.pointer (some ⟨lb, 0, none⟩), .slice (some ad) ims.length c, .int .i64 (q + 1), S', T', .int .i64 (i : Int)] ∧ St R F D F' D3 S' T' 49 1 (rs.length + 1) (rs.map rbV ++ [.slice B pb.length bc]) 3 1 (rs.length + 1) (rs.map riV ++ [.int .i64 pat]) G' ∧ Ext G2 G') (fun K hK => ?_) ?_
    · refine draw_tree_at tab_ok (by kernel_rfl) [9] (DT.row [0, 1, 4, 5, 6, 7, 8, 9] (.fork (.cons 2 (.fork (.cons 3 (.cons 10 (.cons 11 (DT.row [12, 13] .nil)))) (.cons 10 (.cons 3 (.cons 11 (DT.row [12, 13] .nil)))))) (.cons 10 (.cons 2 (.cons 3 (.cons 11 (DT.row [12, 13] .nil))))))) (by kernel_rfl) R st3.tm.s.ext ?_
      ((conv => whnf); repeat (first | (apply load_at; (conv => lhs; whnf); (with_reducible assumption); rfl; (conv => whnf)) | (apply load_at; (conv => lhs; rw [add_plain, add_plain]); (with_reducible assumption); rfl; (conv => whnf)) | (apply loads_at; (conv => lhs; whnf); (with_reducible assumption); rfl; (conv => whnf)) | (refine ⟨⟨by omega, by omega⟩, ?_⟩; (conv => whnf))))
      refine load_step c0R ?_
      ((conv => whnf); repeat (first | (apply load_at; (conv => lhs; whnf); (with_reducible assumption); rfl; (conv => whnf)) | (apply load_at; (conv => lhs; rw [add_plain, add_plain]); (with_reducible assumption); rfl; (conv => whnf)) | (apply loads_at; (conv => lhs; whnf); (with_reducible assumption); rfl; (conv => whnf)) | (refine ⟨⟨by omega, by omega⟩, ?_⟩; (conv => whnf))))
      refine ⟨?_, ?_⟩
      · ((conv => whnf); repeat (first | (apply load_at; (conv => lhs; whnf); (with_reducible assumption); rfl; (conv => whnf)) | (apply load_at; (conv => lhs; rw [add_plain, add_plain]); (with_reducible assumption); rfl; (conv => whnf)) | (apply loads_at; (conv => lhs; whnf); (with_reducible assumption); rfl; (conv => whnf)) | (refine ⟨⟨by omega, by omega⟩, ?_⟩; (conv => whnf))))
        refine new_step (.cells #[.slice B pb.length bc] 49) rfl fun g h0_g => ?_
        have hE_g := Ext.new h0_g (.cells #[.slice B pb.length bc] 49)
        have hB_g := Heap.put_same F3 g (.cells #[.slice B pb.length bc] 49)
        generalize F3.put g _ = F4 at hE_g hB_g ⊢
        have st4 := st3.grow hE_g
        have x4 := gain_ext (F' := F4) st3.tm.base
        have q4 := new_gain h0_g hB_g (st3.tm.base.none h0_g)
        ((conv => whnf); repeat (first | (apply load_at; (conv => lhs; whnf); (with_reducible assumption); rfl; (conv => whnf)) | (apply load_at; (conv => lhs; rw [add_plain, add_plain]); (with_reducible assumption); rfl; (conv => whnf)) | (apply loads_at; (conv => lhs; whnf); (with_reducible assumption); rfl; (conv => whnf)) | (refine ⟨⟨by omega, by omega⟩, ?_⟩; (conv => whnf))))
        refine ⟨st4.tm.s.ext, ?_⟩
        ((conv => whnf); repeat (first | (apply load_at; (conv => lhs; whnf); (with_reducible assumption); rfl; (conv => whnf)) | (apply load_at; (conv => lhs; rw [add_plain, add_plain]); (with_reducible assumption); rfl; (conv => whnf)) | (apply loads_at; (conv => lhs; whnf); (with_reducible assumption); rfl; (conv => whnf)) | (refine ⟨⟨by omega, by omega⟩, ?_⟩; (conv => whnf))))
        refine ⟨?_, ?_⟩
        · ((conv => whnf); repeat (first | (apply load_at; (conv => lhs; whnf); (with_reducible assumption); rfl; (conv => whnf)) | (apply load_at; (conv => lhs; rw [add_plain, add_plain]); (with_reducible assumption); rfl; (conv => whnf)) | (apply loads_at; (conv => lhs; whnf); (with_reducible assumption); rfl; (conv => whnf)) | (refine ⟨⟨by omega, by omega⟩, ?_⟩; (conv => whnf))))
          refine append_own tab_ok (s := S) (n := rs.length) (xs := rs.map rbV) (m := 1) (ys := [.slice B pb.length bc]) (y := .slice (some ⟨g, 0, none⟩) 1 1) rfl rfl rfl rfl rfl ⟨_, rfl, fun k h => by cases h⟩ ⟨_, rfl, rfl⟩ (by decide) st4.tm.s.own ⟨rfl, .inl ⟨_, _, rfl, q4.mono st4.tm.base⟩⟩ (one_slice _ _ _) (by show 2 * (rs.length + 1) * 24 ≤ _; omega) fun S1 F5 hO5 hk5 hf5 => ?_
          have st5 := st4.pushS hO5 hk5 hf5
          ((conv => whnf); repeat (first | (apply load_at; (conv => lhs; whnf); (with_reducible assumption); rfl; (conv => whnf)) | (apply load_at; (conv => lhs; rw [add_plain, add_plain]); (with_reducible assumption); rfl; (conv => whnf)) | (apply loads_at; (conv => lhs; whnf); (with_reducible assumption); rfl; (conv => whnf)) | (refine ⟨⟨by omega, by omega⟩, ?_⟩; (conv => whnf))))
          refine ⟨st5.tm.s.ext, ?_⟩
          ((conv => whnf); repeat (first | (apply load_at; (conv => lhs; whnf); (with_reducible assumption); rfl; (conv => whnf)) | (apply load_at; (conv => lhs; rw [add_plain, add_plain]); (with_reducible assumption); rfl; (conv => whnf)) | (apply loads_at; (conv => lhs; whnf); (with_reducible assumption); rfl; (conv => whnf)) | (refine ⟨⟨by omega, by omega⟩, ?_⟩; (conv => whnf))))
          refine new_step (.cells #[.int .i64 pat] 3) rfl fun e h0_e => ?_
          have hE_e := Ext.new h0_e (.cells #[.int .i64 pat] 3)
          have hB_e := Heap.put_same F5 e (.cells #[.int .i64 pat] 3)
          generalize F5.put e _ = F6 at hE_e hB_e ⊢
          have st6 := st5.grow hE_e
          have x6 := gain_ext (F' := F6) st5.tm.base
          have q6 := new_gain h0_e hB_e (st5.tm.base.none h0_e)
          have rg6 := q4.mono x6
          ((conv => whnf); repeat (first | (apply load_at; (conv => lhs; whnf); (with_reducible assumption); rfl; (conv => whnf)) | (apply load_at; (conv => lhs; rw [add_plain, add_plain]); (with_reducible assumption); rfl; (conv => whnf)) | (apply loads_at; (conv => lhs; whnf); (with_reducible assumption); rfl; (conv => whnf)) | (refine ⟨⟨by omega, by omega⟩, ?_⟩; (conv => whnf))))
          refine ⟨st6.tm.s.ext, ?_⟩
          ((conv => whnf); repeat (first | (apply load_at; (conv => lhs; whnf); (with_reducible assumption); rfl; (conv => whnf)) | (apply load_at; (conv => lhs; rw [add_plain, add_plain]); (with_reducible assumption); rfl; (conv => whnf)) | (apply loads_at; (conv => lhs; whnf); (with_reducible assumption); rfl; (conv => whnf)) | (refine ⟨⟨by omega, by omega⟩, ?_⟩; (conv => whnf))))
          refine append_own tab_ok (s := T) (n := rs.length) (xs := rs.map riV) (m := 1) (ys := [.int .i64 pat]) (y := .slice (some ⟨e, 0, none⟩) 1 1) rfl rfl rfl rfl rfl ⟨_, rfl, fun k h => by cases h⟩ ⟨_, rfl, rfl⟩ (by decide) st6.tm.t.own ⟨rfl, .inl ⟨_, _, rfl, q6.mono st6.tm.base⟩⟩ (one_int _ _) (by show 2 * (rs.length + 1) * 8 ≤ _; omega) fun T1 F7 hO7 hk7 hf7 => ?_
          have st7 := (st6.swap.pushS hO7 hk7 hf7).swap
          ((conv => whnf); repeat (first | (apply load_at; (conv => lhs; whnf); (with_reducible assumption); rfl; (conv => whnf)) | (apply load_at; (conv => lhs; rw [add_plain, add_plain]); (with_reducible assumption); rfl; (conv => whnf)) | (apply loads_at; (conv => lhs; whnf); (with_reducible assumption); rfl; (conv => whnf)) | (refine ⟨⟨by omega, by omega⟩, ?_⟩; (conv => whnf))))
          refine ⟨st7.tm.s.ext, ?_⟩
          ((conv => whnf); repeat (first | (apply load_at; (conv => lhs; whnf); (with_reducible assumption); rfl; (conv => whnf)) | (apply load_at; (conv => lhs; rw [add_plain, add_plain]); (with_reducible assumption); rfl; (conv => whnf)) | (apply loads_at; (conv => lhs; whnf); (with_reducible assumption); rfl; (conv => whnf)) | (refine ⟨⟨by omega, by omega⟩, ?_⟩; (conv => whnf))))
          exact hK _ _ ⟨S1, T1, _, rfl, st7, (x4.trans x6)⟩
        · ((conv => whnf); repeat (first | (apply load_at; (conv => lhs; whnf); (with_reducible assumption); rfl; (conv => whnf)) | (apply load_at; (conv => lhs; rw [add_plain, add_plain]); (with_reducible assumption); rfl; (conv => whnf)) | (apply loads_at; (conv => lhs; whnf); (with_reducible assumption); rfl; (conv => whnf)) | (refine ⟨⟨by omega, by omega⟩, ?_⟩; (conv => whnf))))
          refine new_step (.cells #[.int .i64 pat] 3) rfl fun e h0_e => ?_
          have hE_e := Ext.new h0_e (.cells #[.int .i64 pat] 3)
          have hB_e := Heap.put_same F4 e (.cells #[.int .i64 pat] 3)
          generalize F4.put e _ = F5 at hE_e hB_e ⊢
          have st5 := st4.grow hE_e
          have x5 := gain_ext (F' := F5) st4.tm.base
          have q5 := new_gain h0_e hB_e (st4.tm.base.none h0_e)
          have rg5 := q4.mono x5
          ((conv => whnf); repeat (first | (apply load_at; (conv => lhs; whnf); (with_reducible assumption); rfl; (conv => whnf)) | (apply load_at; (conv => lhs; rw [add_plain, add_plain]); (with_reducible assumption); rfl; (conv => whnf)) | (apply loads_at; (conv => lhs; whnf); (with_reducible assumption); rfl; (conv => whnf)) | (refine ⟨⟨by omega, by omega⟩, ?_⟩; (conv => whnf))))
          refine ⟨st5.tm.s.ext, ?_⟩
          ((conv => whnf); repeat (first | (apply load_at; (conv => lhs; whnf); (with_reducible assumption); rfl; (conv => whnf)) | (apply load_at; (conv => lhs; rw [add_plain, add_plain]); (with_reducible assumption); rfl; (conv => whnf)) | (apply loads_at; (conv => lhs; whnf); (with_reducible assumption); rfl; (conv => whnf)) | (refine ⟨⟨by omega, by omega⟩, ?_⟩; (conv => whnf))))
          refine append_own tab_ok (s := S) (n := rs.length) (xs := rs.map rbV) (m := 1) (ys := [.slice B pb.length bc]) (y := .slice (some ⟨g, 0, none⟩) 1 1) rfl rfl rfl rfl rfl ⟨_, rfl, fun k h => by cases h⟩ ⟨_, rfl, rfl⟩ (by decide) st5.tm.s.own ⟨rfl, .inl ⟨_, _, rfl, rg5.mono st5.tm.base⟩⟩ (one_slice _ _ _) (by show 2 * (rs.length + 1) * 24 ≤ _; omega) fun S1 F6 hO6 hk6 hf6 => ?_
          have st6 := st5.pushS hO6 hk6 hf6
          ((conv => whnf); repeat (first | (apply load_at; (conv => lhs; whnf); (with_reducible assumption); rfl; (conv => whnf)) | (apply load_at; (conv => lhs; rw [add_plain, add_plain]); (with_reducible assumption); rfl; (conv => whnf)) | (apply loads_at; (conv => lhs; whnf); (with_reducible assumption); rfl; (conv => whnf)) | (refine ⟨⟨by omega, by omega⟩, ?_⟩; (conv => whnf))))
          refine ⟨st6.tm.s.ext, ?_⟩
          ((conv => whnf); repeat (first | (apply load_at; (conv => lhs; whnf); (with_reducible assumption); rfl; (conv => whnf)) | (apply load_at; (conv => lhs; rw [add_plain, add_plain]); (with_reducible assumption); rfl; (conv => whnf)) | (apply loads_at; (conv => lhs; whnf); (with_reducible assumption); rfl; (conv => whnf)) | (refine ⟨⟨by omega, by omega⟩, ?_⟩; (conv => whnf))))
          refine append_own tab_ok (s := T) (n := rs.length) (xs := rs.map riV) (m := 1) (ys := [.int .i64 pat]) (y := .slice (some ⟨e, 0, none⟩) 1 1) rfl rfl rfl rfl rfl ⟨_, rfl, fun k h => by cases h⟩ ⟨_, rfl, rfl⟩ (by decide) st6.tm.t.own ⟨rfl, .inl ⟨_, _, rfl, q5.mono st6.tm.base⟩⟩ (one_int _ _) (by show 2 * (rs.length + 1) * 8 ≤ _; omega) fun T1 F7 hO7 hk7 hf7 => ?_
          have st7 := (st6.swap.pushS hO7 hk7 hf7).swap
          ((conv => whnf); repeat (first | (apply load_at; (conv => lhs; whnf); (with_reducible assumption); rfl; (conv => whnf)) | (apply load_at; (conv => lhs; rw [add_plain, add_plain]); (with_reducible assumption); rfl; (conv => whnf)) | (apply loads_at; (conv => lhs; whnf); (with_reducible assumption); rfl; (conv => whnf)) | (refine ⟨⟨by omega, by omega⟩, ?_⟩; (conv => whnf))))
          refine ⟨st7.tm.s.ext, ?_⟩
          ((conv => whnf); repeat (first | (apply load_at; (conv => lhs; whnf); (with_reducible assumption); rfl; (conv => whnf)) | (apply load_at; (conv => lhs; rw [add_plain, add_plain]); (with_reducible assumption); rfl; (conv => whnf)) | (apply loads_at; (conv => lhs; whnf); (with_reducible assumption); rfl; (conv => whnf)) | (refine ⟨⟨by omega, by omega⟩, ?_⟩; (conv => whnf))))
          exact hK _ _ ⟨S1, T1, _, rfl, st7, (x4.trans x5)⟩
      · ((conv => whnf); repeat (first | (apply load_at; (conv => lhs; whnf); (with_reducible assumption); rfl; (conv => whnf)) | (apply load_at; (conv => lhs; rw [add_plain, add_plain]); (with_reducible assumption); rfl; (conv => whnf)) | (apply loads_at; (conv => lhs; whnf); (with_reducible assumption); rfl; (conv => whnf)) | (refine ⟨⟨by omega, by omega⟩, ?_⟩; (conv => whnf))))
        refine new_step (.cells #[.int .i64 pat] 3) rfl fun e h0_e => ?_
        have hE_e := Ext.new h0_e (.cells #[.int .i64 pat] 3)
        have hB_e := Heap.put_same F3 e (.cells #[.int .i64 pat] 3)
        generalize F3.put e _ = F4 at hE_e hB_e ⊢
        have st4 := st3.grow hE_e
        have x4 := gain_ext (F' := F4) st3.tm.base
        have q4 := new_gain h0_e hB_e (st3.tm.base.none h0_e)
        ((conv => whnf); repeat (first | (apply load_at; (conv => lhs; whnf); (with_reducible assumption); rfl; (conv => whnf)) | (apply load_at; (conv => lhs; rw [add_plain, add_plain]); (with_reducible assumption); rfl; (conv => whnf)) | (apply loads_at; (conv => lhs; whnf); (with_reducible assumption); rfl; (conv => whnf)) | (refine ⟨⟨by omega, by omega⟩, ?_⟩; (conv => whnf))))
        refine ⟨st4.tm.s.ext, ?_⟩
        ((conv => whnf); repeat (first | (apply load_at; (conv => lhs; whnf); (with_reducible assumption); rfl; (conv => whnf)) | (apply load_at; (conv => lhs; rw [add_plain, add_plain]); (with_reducible assumption); rfl; (conv => whnf)) | (apply loads_at; (conv => lhs; whnf); (with_reducible assumption); rfl; (conv => whnf)) | (refine ⟨⟨by omega, by omega⟩, ?_⟩; (conv => whnf))))
        refine new_step (.cells #[.slice B pb.length bc] 49) rfl fun g h0_g => ?_
        have hE_g := Ext.new h0_g (.cells #[.slice B pb.length bc] 49)
        have hB_g := Heap.put_same F4 g (.cells #[.slice B pb.length bc] 49)
        generalize F4.put g _ = F5 at hE_g hB_g ⊢
        have st5 := st4.grow hE_g
        have x5 := gain_ext (F' := F5) st4.tm.base
        have q5 := new_gain h0_g hB_g (st4.tm.base.none h0_g)
        have re5 := q4.mono x5
        ((conv => whnf); repeat (first | (apply load_at; (conv => lhs; whnf); (with_reducible assumption); rfl; (conv => whnf)) | (apply load_at; (conv => lhs; rw [add_plain, add_plain]); (with_reducible assumption); rfl; (conv => whnf)) | (apply loads_at; (conv => lhs; whnf); (with_reducible assumption); rfl; (conv => whnf)) | (refine ⟨⟨by omega, by omega⟩, ?_⟩; (conv => whnf))))
        refine ⟨st5.tm.s.ext, ?_⟩
        ((conv => whnf); repeat (first | (apply load_at; (conv => lhs; whnf); (with_reducible assumption); rfl; (conv => whnf)) | (apply load_at; (conv => lhs; rw [add_plain, add_plain]); (with_reducible assumption); rfl; (conv => whnf)) | (apply loads_at; (conv => lhs; whnf); (with_reducible assumption); rfl; (conv => whnf)) | (refine ⟨⟨by omega, by omega⟩, ?_⟩; (conv => whnf))))
        refine append_own tab_ok (s := S) (n := rs.length) (xs := rs.map rbV) (m := 1) (ys := [.slice B pb.length bc]) (y := .slice (some ⟨g, 0, none⟩) 1 1) rfl rfl rfl rfl rfl ⟨_, rfl, fun k h => by cases h⟩ ⟨_, rfl, rfl⟩ (by decide) st5.tm.s.own ⟨rfl, .inl ⟨_, _, rfl, q5.mono st5.tm.base⟩⟩ (one_slice _ _ _) (by show 2 * (rs.length + 1) * 24 ≤ _; omega) fun S1 F6 hO6 hk6 hf6 => ?_
        have st6 := st5.pushS hO6 hk6 hf6
        ((conv => whnf); repeat (first | (apply load_at; (conv => lhs; whnf); (with_reducible assumption); rfl; (conv => whnf)) | (apply load_at; (conv => lhs; rw [add_plain, add_plain]); (with_reducible assumption); rfl; (conv => whnf)) | (apply loads_at; (conv => lhs; whnf); (with_reducible assumption); rfl; (conv => whnf)) | (refine ⟨⟨by omega, by omega⟩, ?_⟩; (conv => whnf))))
        refine ⟨st6.tm.s.ext, ?_⟩
        ((conv => whnf); repeat (first | (apply load_at; (conv => lhs; whnf); (with_reducible assumption); rfl; (conv => whnf)) | (apply load_at; (conv => lhs; rw [add_plain, add_plain]); (with_reducible assumption); rfl; (conv => whnf)) | (apply loads_at; (conv => lhs; whnf); (with_reducible assumption); rfl; (conv => whnf)) | (refine ⟨⟨by omega, by omega⟩, ?_⟩; (conv => whnf))))
        refine append_own tab_ok (s := T) (n := rs.length) (xs := rs.map riV) (m := 1) (ys := [.int .i64 pat]) (y := .slice (some ⟨e, 0, none⟩) 1 1) rfl rfl rfl rfl rfl ⟨_, rfl, fun k h => by cases h⟩ ⟨_, rfl, rfl⟩ (by decide) st6.tm.t.own ⟨rfl, .inl ⟨_, _, rfl, re5.mono st6.tm.base⟩⟩ (one_int _ _) (by show 2 * (rs.length + 1) * 8 ≤ _; omega) fun T1 F7 hO7 hk7 hf7 => ?_
        have st7 := (st6.swap.pushS hO7 hk7 hf7).swap
        ((conv => whnf); repeat (first | (apply load_at; (conv => lhs; whnf); (with_reducible assumption); rfl; (conv => whnf)) | (apply load_at; (conv => lhs; rw [add_plain, add_plain]); (with_reducible assumption); rfl; (conv => whnf)) | (apply loads_at; (conv => lhs; whnf); (with_reducible assumption); rfl; (conv => whnf)) | (refine ⟨⟨by omega, by omega⟩, ?_⟩; (conv => whnf))))
        refine ⟨st7.tm.s.ext, ?_⟩
        ((conv => whnf); repeat (first | (apply load_at; (conv => lhs; whnf); (with_reducible assumption); rfl; (conv => whnf)) | (apply load_at; (conv => lhs; rw [add_plain, add_plain]); (with_reducible assumption); rfl; (conv => whnf)) | (apply loads_at; (conv => lhs; whnf); (with_reducible assumption); rfl; (conv => whnf)) | (refine ⟨⟨by omega, by omega⟩, ?_⟩; (conv => whnf))))
        exact hK _ _ ⟨S1, T1, _, rfl, st7, (x4.trans x5)⟩
    · rintro env' F4 ⟨S4, T4, G4, hev, st4, x4⟩
      refine short [0, 1, 5, 6, 7, 8] [.pointer (some ⟨lb, 0, none⟩), .slice (some ad) ims.length c, .int .i64 (q + 1), S4, T4, .int .i64 (i : Int)] hev fun ρ => ?_
      have e1 : (rs ++ [(⟨pat, pb, B, bc⟩ : RpR)]).map rbV = rs.map rbV ++ [.slice B pb.length bc] := List.map_append
      have e2 : (rs ++ [(⟨pat, pb, B, bc⟩ : RpR)]).map riV = rs.map riV ++ [.int .i64 pat] := List.map_append
      have e3 : (rs ++ [(⟨pat, pb, B, bc⟩ : RpR)]).length = rs.length + 1 := List.length_append
      have e4 : (rs ++ [(⟨pat, pb, B, bc⟩ : RpR)]).map (rhW (N : Int)) = rs.map (rhW (N : Int)) ++ [(homeI (N : Int) pat, pb)] := List.map_append
      rw [← e1, ← e2, ← e3] at st4
      ((conv => whnf); repeat (first | (apply load_at; (conv => lhs; whnf); (with_reducible assumption); rfl; (conv => whnf)) | (apply load_at; (conv => lhs; rw [add_plain, add_plain]); (with_reducible assumption); rfl; (conv => whnf)) | (apply loads_at; (conv => lhs; whnf); (with_reducible assumption); rfl; (conv => whnf)) | (refine ⟨⟨by omega, by omega⟩, ?_⟩; (conv => whnf))))
      refine ⟨k - 1, by omega, i + 1, r2, D3, S4, T4, rs ++ [⟨pat, pb, B, bc⟩], G4, by omega, by rw [e3, hri], ?_, st4, hD3, hln.trans hn1, by omega, fun x hx => ?_, by rw [e4, hhw, hh1], hrs⟩
      · rw [← wrap_succ (j := i) (by omega)]
        rfl
      · rcases List.mem_append.1 hx with hx | hx
        · exact ((hok x hx).mono x2).mono x4
        · rw [List.mem_singleton] at hx
          subst hx
          exact ⟨hpb2.mono x4, by show pb.length ≤ 900000; omega⟩
  · have hi : i = ims.length := by
      have := of_decide_eq_false h
      omega
    subst hi
    rw [List.drop_length] at hrs
    replace hrs : res = (rflushS r1, if r1.down = true then (5 : Int) else 0) := by rw [hrs, List.map_nil, hl0]; rfl
    rw [hh0] at hhw
    have kf := rflush st1.mv.inn hD1
    obtain ⟨hf1, hf2⟩ := rf_le r1
    generalize rflushS r1 = s2 at kf hrs hf1 hf2
    generalize (if r1.down = true then (5 : Int) else 0) = e2 at kf hrs
    subst hrs
    dsimp only at hC hsec hrl
    ((conv => whnf); repeat (first | (apply load_at; (conv => lhs; whnf); (with_reducible assumption); rfl; (conv => whnf)) | (apply load_at; (conv => lhs; rw [add_plain, add_plain]); (with_reducible assumption); rfl; (conv => whnf)) | (apply loads_at; (conv => lhs; whnf); (with_reducible assumption); rfl; (conv => whnf)) | (refine ⟨⟨by omega, by omega⟩, ?_⟩; (conv => whnf))))
    refine call_of kf ?_
    rintro v F2 ⟨rfl, D2, hM2, hD2⟩
    have st2 := st1.moves hM2
    have hlg2 := st2.mv.out _ _ hlg hdl
    refine short [0, 1, 5, 6, 7, 96] [.pointer (some ⟨lb, 0, none⟩), .slice A ims.length c, .int .i64 (q + 1), S, T, .int .i64 e2] rfl fun ρ => ?_
    ((conv => whnf); repeat (first | (apply load_at; (conv => lhs; whnf); (with_reducible assumption); rfl; (conv => whnf)) | (apply load_at; (conv => lhs; rw [add_plain, add_plain]); (with_reducible assumption); rfl; (conv => whnf)) | (apply loads_at; (conv => lhs; whnf); (with_reducible assumption); rfl; (conv => whnf)) | (refine ⟨⟨by omega, by omega⟩, ?_⟩; (conv => whnf))))
    refine cond_split (fun h => ?_) (fun h => ?_)
    · have he : e2 ≠ 0 := by
        have h : (e2 != 0) = true := h
        simpa using h
      rw [if_pos he] at hC
      subst hC
      ((conv => whnf); repeat (first | (apply load_at; (conv => lhs; whnf); (with_reducible assumption); rfl; (conv => whnf)) | (apply load_at; (conv => lhs; rw [add_plain, add_plain]); (with_reducible assumption); rfl; (conv => whnf)) | (apply loads_at; (conv => lhs; whnf); (with_reducible assumption); rfl; (conv => whnf)) | (refine ⟨⟨by omega, by omega⟩, ?_⟩; (conv => whnf))))
      exact ⟨rfl, fin0 _ _ D2 st2.mv hD2⟩
    have he : ¬ e2 ≠ 0 := by
      have h : (e2 != 0) = false := h
      simpa using h
    rw [if_neg he] at hC
    have hs1 := hsec hz (by simpa using he)
    clear h
    have k6 := rmark st2.mv.inn hD2 (ims.length : Int) (q + 1) (by omega)
    obtain ⟨hm1, hm2⟩ := rrun_le [(0, noteB ims.length (q + 1))] s2
    replace hm1 : (runW rsO s2 [(0, noteB ims.length (q + 1))]).1.done ≤ s2.done + ((1 : Nat) : Int) := hm1
    generalize runW rsO s2 [(0, noteB ims.length (q + 1))] = r3 at k6 hC hm1 hm2
    obtain ⟨s3, e3⟩ := r3
    dsimp only at hC k6 hm1 hm2
    ((conv => whnf); repeat (first | (apply load_at; (conv => lhs; whnf); (with_reducible assumption); rfl; (conv => whnf)) | (apply load_at; (conv => lhs; rw [add_plain, add_plain]); (with_reducible assumption); rfl; (conv => whnf)) | (apply loads_at; (conv => lhs; whnf); (with_reducible assumption); rfl; (conv => whnf)) | (refine ⟨⟨by omega, by omega⟩, ?_⟩; (conv => whnf))))
    refine call_of k6 ?_
    rintro v F3 ⟨rfl, D3, hM3, hD3⟩
    have st3 := st2.moves hM3
    have hlg3 := st3.mv.out _ _ hlg hdl
    have hdl3 := (moves_withB (o := rgO b q) st3.mv hdl hlg).2
    refine short [0, 5, 6, 7, 107] [.pointer (some ⟨lb, 0, none⟩), .int .i64 (q + 1), S, T, .int .i64 e3] rfl fun ρ => ?_
    ((conv => whnf); repeat (first | (apply load_at; (conv => lhs; whnf); (with_reducible assumption); rfl; (conv => whnf)) | (apply load_at; (conv => lhs; rw [add_plain, add_plain]); (with_reducible assumption); rfl; (conv => whnf)) | (apply loads_at; (conv => lhs; whnf); (with_reducible assumption); rfl; (conv => whnf)) | (refine ⟨⟨by omega, by omega⟩, ?_⟩; (conv => whnf))))
    refine cond_split (fun h => ?_) (fun h => ?_)
    · have he : e3 ≠ 0 := by
        have h : (e3 != 0) = true := h
        simpa using h
      rw [if_pos he] at hC
      subst hC
      ((conv => whnf); repeat (first | (apply load_at; (conv => lhs; whnf); (with_reducible assumption); rfl; (conv => whnf)) | (apply load_at; (conv => lhs; rw [add_plain, add_plain]); (with_reducible assumption); rfl; (conv => whnf)) | (apply loads_at; (conv => lhs; whnf); (with_reducible assumption); rfl; (conv => whnf)) | (refine ⟨⟨by omega, by omega⟩, ?_⟩; (conv => whnf))))
      exact ⟨rfl, fin0 _ _ D3 st3.mv hD3⟩
    have he : ¬ e3 ≠ 0 := by
      have h : (e3 != 0) = false := h
      simpa using h
    rw [if_neg he] at hC
    clear h
    have hlbS : ∀ k, blk S = some k → (D3.put lb (rgO b q)) k = none := fun k hk => by
      by_cases e : k = lb
      · subst e
        rcases st3.sf k hk with x | x
        · rw [x] at hlg; cases hlg
        · exact absurd hdl x
      · rw [Heap.put_other _ _ e]; exact st3.s2 k hk
    have hlbT : ∀ k, blk T = some k → (D3.put lb (rgO b q)) k = none := fun k hk => by
      by_cases e : k = lb
      · subst e
        rcases st3.tf k hk with x | x
        · rw [x] at hlg; cases hlg
        · exact absurd hdl x
      · rw [Heap.put_other _ _ e]; exact st3.t2 k hk
    have hGa : Apart (D3.put lb (rgO b q)) G := fun k hk => by
      by_cases e : k = lb
      · subst e
        exact st3.gl k _ hlg hdl hRl
      · rw [Heap.put_other _ _ e] at hk; exact st3.ga k hk
    obtain ⟨A1, c1, rfl, _, hr1⟩ := st3.tm.s.own.row
    obtain ⟨A2, c2, rfl, _, hr2⟩ := st3.tm.t.own.row
    have hr1 := restH_row hr1 (fun a ha => hlbS a.block (by rw [ha]; rfl))
    have hr2 := restH_row hr2 (fun a ha => hlbT a.block (by rw [ha]; rfl))
    have hok2 : ∀ p ∈ rs, RpOk (restH (D3.put lb (rgO b q)) F3) p := fun p hp => (hok p hp).mono (restH_keep st3.tm.base hGa)
    have hRA := (restH_apart (D3.put lb (rgO b q)) F3).mono ((Ext.refl D3).put hdl3 _)
    have hRE := restH_ext (D3.put lb (rgO b q)) F3
    have hRl3 : restH (D3.put lb (rgO b q)) F3 lb = none := restH_apart _ _ lb (by rw [Heap.put_same]; simp)
    generalize restH (D3.put lb (rgO b q)) F3 = R3 at hr1 hr2 hok2 hRA hRE hRl3
    ((conv => whnf); repeat (first | (apply load_at; (conv => lhs; whnf); (with_reducible assumption); rfl; (conv => whnf)) | (apply load_at; (conv => lhs; rw [add_plain, add_plain]); (with_reducible assumption); rfl; (conv => whnf)) | (apply loads_at; (conv => lhs; whnf); (with_reducible assumption); rfl; (conv => whnf)) | (refine ⟨⟨by omega, by omega⟩, ?_⟩; (conv => whnf))))
    refine store_step lb 1 _ #[.pointer (some ⟨b, 0, none⟩), .int .i64 (q + 1)] rfl hlg3 rfl rfl (.inl (Nat.le_refl 0)) (one_int _ _) ?_
    have hB5 := Heap.put_same F3 lb (rgO b (q + 1))
    have hMB := (moves_withB (o := rgO b q) st3.mv hdl hlg).1
    have hM5 := hMB.trans (Moves.put (b := lb) hMB.inn (.inl (by rw [Heap.put_same]; simp)) (rgO b (q + 1)))
    rw [show (D3.put lb (rgO b q)).put lb (rgO b (q + 1)) = D3.put lb (rgO b (q + 1)) from funext fun z => by unfold Heap.put; split <;> rfl] at hM5
    have hE5 : Ext D3 (F3.put lb (rgO b (q + 1))) := st3.mv.inn.put hdl3 _
    have hR5 : Ext R3 (F3.put lb (rgO b (q + 1))) := hRE.put hRl3 _
    generalize F3.put lb _ = F5 at hB5 hM5 hE5 hR5 ⊢
    have k7 := rhomes hE5 hD3 hR5 hRA rs A1 A2 c1 c2 hr1 hr2 hok2 (by omega) (by omega)
    rw [hm2, hf2, hn1, hhw] at k7
    generalize runW rsO s3 hw_ = r4 at k7 hC
    obtain ⟨s4, e4⟩ := r4
    dsimp only at hC k7
    subst hC
    ((conv => whnf); repeat (first | (apply load_at; (conv => lhs; whnf); (with_reducible assumption); rfl; (conv => whnf)) | (apply load_at; (conv => lhs; rw [add_plain, add_plain]); (with_reducible assumption); rfl; (conv => whnf)) | (apply loads_at; (conv => lhs; whnf); (with_reducible assumption); rfl; (conv => whnf)) | (refine ⟨⟨by omega, by omega⟩, ?_⟩; (conv => whnf))))
    refine call_of k7 ?_
    rintro v F6 ⟨rfl, D6, hM6, hD6⟩
    obtain ⟨hM7, hdl6⟩ := moves_withB (o := rgO b (q + 1)) hM6 hdl3 hB5
    have hqr : q + 1 ≤ 4611686018427387904 := by
      unfold secR at hs1
      simp only [Bool.and_eq_true, decide_eq_true_eq] at hs1
      exact hs1.2.2
    ((conv => whnf); repeat (first | (apply load_at; (conv => lhs; whnf); (with_reducible assumption); rfl; (conv => whnf)) | (apply load_at; (conv => lhs; rw [add_plain, add_plain]); (with_reducible assumption); rfl; (conv => whnf)) | (apply loads_at; (conv => lhs; whnf); (with_reducible assumption); rfl; (conv => whnf)) | (refine ⟨⟨by omega, by omega⟩, ?_⟩; (conv => whnf))))
    exact ⟨rfl, _, hM5.trans hM7, D6, hD6, hdl6, rfl, (by omega : 0 ≤ q + 1), hqr⟩
end Go.Proofs.YtmpiggcooboenaaDoor.Al
/- Logs: the program's and the reference's go together, in plain Lean. -/
namespace Go.Proofs.YtmpiggcooboenaaDoor.Al
open Go Go.Al Go.Proofs Go.RowKit
set_option maxHeartbeats 8000000
set_option maxRecDepth 100000
set_option linter.unusedVariables false
set_option linter.unusedSimpArgs false
theorem sim_same {s : DS} {r : RS} (h : Sim s r) : SameR dsO s rsO r := ⟨h.sz, fun i => (sim_read h i).1, fun i => (sim_read h i).2⟩
theorem writeS_any {s : DS} (h : DWf s) (hw : s.writes < 1000000000) (i : Int) (l : List UInt8) : DWf (writeS s i l) := by
  by_cases h1 : 0 ≤ i ∧ i < s.size
  · by_cases h2 : l.length = 256
    · exact writeS_wf h h1 hw l h2
    · unfold writeS; rw [if_pos (.inr (.inr h2))]; exact h
  · unfold writeS; rw [if_pos (.inr (.inl h1))]; exact h
theorem sim_run : ∀ (ps : List (Int × List UInt8)) (s : DS) (r : RS), Sim s r → DWf s → s.writes + ps.length < 1000000000 → (runW dsO s ps).2 = (runW rsO r ps).2 ∧ Sim (runW dsO s ps).1 (runW rsO r ps).1 ∧ DWf (runW dsO s ps).1
  | [], s, r, h, hw, _ => ⟨(sim_flush h hw).1, (sim_flush h hw).2, flush_wf hw⟩
  | p :: ps, s, r, h, hw, hl => by
    rw [List.length_cons] at hl
    obtain ⟨e1, h1⟩ := sim_write h p.1 p.2
    have w1 := writeS_any hw (by omega) p.1 p.2
    have hle := (writes_le s p.1 p.2).1
    have ih := sim_run ps (writeS s p.1 p.2) (rwriteS r p.1 p.2) h1 w1 (by omega)
    rw [runW_cons, runW_cons]
    show (if writeE s p.1 p.2 = 0 then runW dsO (writeS s p.1 p.2) ps else (writeS s p.1 p.2, writeE s p.1 p.2)).2 = (if rwriteE r p.1 p.2 = 0 then runW rsO (rwriteS r p.1 p.2) ps else (rwriteS r p.1 p.2, rwriteE r p.1 p.2)).2 ∧ Sim (if writeE s p.1 p.2 = 0 then runW dsO (writeS s p.1 p.2) ps else (writeS s p.1 p.2, writeE s p.1 p.2)).1 (if rwriteE r p.1 p.2 = 0 then runW rsO (rwriteS r p.1 p.2) ps else (rwriteS r p.1 p.2, rwriteE r p.1 p.2)).1 ∧ DWf (if writeE s p.1 p.2 = 0 then runW dsO (writeS s p.1 p.2) ps else (writeS s p.1 p.2, writeE s p.1 p.2)).1
    rw [e1]
    by_cases h0 : rwriteE r p.1 p.2 = 0
    · rw [if_pos h0, if_pos h0]; exact ih
    · rw [if_neg h0, if_neg h0]; exact ⟨rfl, h1, w1⟩
theorem sim_open {s : DS} {r : RS} (h : Sim s r) (hw : DWf s) (hl : s.writes + 40000 < 1000000000) : (openS dsO s).2 = (openS rsO r).2 ∧ Sim (openS dsO s).1 (openS rsO r).1 ∧ (openS dsO s).1.writes ≤ s.writes + 40000 ∧ (openS dsO s).1.size = s.size := by
  have hS := sim_same h
  unfold openS
  rw [hS.rdN, hS.whole]
  generalize rdN rsO r = rn
  by_cases h0 : rn.2.2 ≠ 0
  · rw [if_pos h0, if_pos h0]
    exact ⟨rfl, h, (by omega : s.writes ≤ s.writes + 40000), rfl⟩
  rw [if_neg h0, if_neg h0]
  cases e : wholeO rsO r rn.1 rn.2.1 with
  | none => exact ⟨rfl, h, (by omega : s.writes ≤ s.writes + 40000), rfl⟩
  | some ws =>
    obtain ⟨l1, l2⟩ := wholeO_len e
    have hle := pagesN_le (rsO.sz r)
    have hn : (ws.length : Int) ≤ 32768 := by omega
    obtain ⟨e1, h1, w1⟩ := sim_run ws s r h hw (by omega)
    have hrl := runW_le ws s
    dsimp only
    rw [e1]
    by_cases h2 : (runW rsO r ws).2 ≠ 0
    · rw [if_pos h2, if_pos h2]
      exact ⟨rfl, h1, (by omega : (runW dsO s ws).1.writes ≤ s.writes + 40000), hrl.2⟩
    · rw [if_neg h2, if_neg h2]
      exact ⟨rfl, h1, (by omega : (runW dsO s ws).1.writes ≤ s.writes + 40000), hrl.2⟩
theorem sim_commit {s : DS} {r : RS} (h : Sim s r) (hw : DWf s) (q : Int) (ps : List (Int × List UInt8)) (hl : s.writes + 200000 < 1000000000) (hp : ps.length ≤ 50000) : (commitS dsO s q ps).2 = (commitS rsO r q ps).2 ∧ Sim (commitS dsO s q ps).1 (commitS rsO r q ps).1 ∧ (commitS dsO s q ps).1.writes ≤ s.writes + 200000 ∧ (commitS dsO s q ps).1.size = s.size := by
  have hS := sim_same h
  have lw := logW_len (rsO.sz r) (q + 1) 0 ps
  have hh : (homW (rsO.sz r) (q + 1) ps).length = ps.length := by unfold homW; rw [List.length_map]
  unfold commitS
  rw [hS.sz]
  by_cases c1 : (ps.length : Int) > pagesN (rsO.sz r)
  · rw [if_pos c1, if_pos c1]; exact ⟨rfl, h, (by omega : s.writes ≤ s.writes + 200000), rfl⟩
  rw [if_neg c1, if_neg c1]
  by_cases c2 : rightL (rsO.sz r) ps [] = false
  · rw [if_pos c2, if_pos c2]; exact ⟨rfl, h, (by omega : s.writes ≤ s.writes + 200000), rfl⟩
  rw [if_neg c2, if_neg c2]
  by_cases c3 : ps.length = 0
  · rw [if_pos c3, if_pos c3]; exact ⟨rfl, h, (by omega : s.writes ≤ s.writes + 200000), rfl⟩
  rw [if_neg c3, if_neg c3]
  generalize logW (rsO.sz r) (q + 1) 0 ps = L at lw
  generalize homW (rsO.sz r) (q + 1) ps = H at hh
  obtain ⟨e1, h1, w1⟩ := sim_run L s r h hw (by omega)
  have b1 := runW_le L s
  generalize runW dsO s L = x1 at *
  generalize runW rsO r L = y1 at *
  rw [e1]
  by_cases c4 : y1.2 ≠ 0
  · rw [if_pos c4, if_pos c4]; exact ⟨rfl, h1, (by omega : x1.1.writes ≤ s.writes + 200000), b1.2⟩
  rw [if_neg c4, if_neg c4]
  obtain ⟨e2, h2, w2⟩ := sim_run [(0, noteB ps.length (q + 1))] x1.1 y1.1 h1 w1 (by show x1.1.writes + ((1 : Nat) : Int) < _; omega)
  have b2 := runW_le [(0, noteB ps.length (q + 1))] x1.1
  replace b2 : (runW dsO x1.1 [(0, noteB ps.length (q + 1))]).1.writes ≤ x1.1.writes + ((1 : Nat) : Int) ∧ (runW dsO x1.1 [(0, noteB ps.length (q + 1))]).1.size = x1.1.size := b2
  generalize runW dsO x1.1 [(0, noteB ps.length (q + 1))] = x2 at *
  generalize runW rsO y1.1 [(0, noteB ps.length (q + 1))] = y2 at *
  rw [e2]
  by_cases c5 : y2.2 ≠ 0
  · rw [if_pos c5, if_pos c5]; exact ⟨rfl, h2, (by omega : x2.1.writes ≤ s.writes + 200000), b2.2.trans b1.2⟩
  rw [if_neg c5, if_neg c5]
  obtain ⟨e3, h3, w3⟩ := sim_run H x2.1 y2.1 h2 w2 (by omega)
  have b3 := runW_le H x2.1
  exact ⟨congrArg (fun z => (z, q + 1)) e3, h3, (by omega : (runW dsO x2.1 H).1.writes ≤ s.writes + 200000), b3.2.trans (b2.2.trans b1.2)⟩
theorem sim_load {s : DS} {r : RS} (h : Sim s r) (p : Int) : loadE dsO s p = loadE rsO r p ∧ loadL dsO s p = loadL rsO r p := by
  have hS := sim_same h
  unfold loadE loadL
  rw [hS.sz, hS.e, hS.l]
  exact ⟨rfl, rfl⟩
end Go.Proofs.YtmpiggcooboenaaDoor.Al
/- bytes.Repeat of one byte, 240 times; the laws' own words: page, some, all. -/
namespace Go.Proofs.YtmpiggcooboenaaDoor.Al
open Go Go.Al Go.Proofs Go.RowKit
set_option maxHeartbeats 8000000
set_option maxRecDepth 100000
set_option linter.unusedVariables false
set_option linter.unusedSimpArgs false
theorem mul64b (F : Heap) : FnK Tryd.prog 126 #[.int .u64 1, .int .u64 240] F (fun v F' => v = .tuple #[.int .u64 0, .int .u64 240] ∧ F' = F) := by
  (refine fn_walk tab_ok Tryd.func126 rfl rfl rfl rfl ?_; (conv => whnf))
  repeat (refine ⟨by decide, ?_⟩; (conv => whnf))
  exact ⟨rfl, rfl⟩
theorem mulBitsb (F : Heap) : FnK Tryd.prog 121 #[.int .u64 1, .int .u64 240] F (fun v F' => v = .tuple #[.int .u64 0, .int .u64 240] ∧ F' = F) := by
  (refine fn_walk tab_ok Tryd.func121 rfl rfl rfl rfl ?_; (conv => whnf))
  refine call_of (mul64b F) ?_
  rintro v F2 ⟨rfl, rfl⟩
  (conv => whnf)
  exact ⟨rfl, rfl⟩
theorem repeat240 (x : UInt8) (A : Option Addr) (c : Nat) (F : Heap) (hr : RowAt F A (bytesOf [x])) :
    FnK Tryd.prog 110 #[.slice A 1 c, .int .i64 240] F (fun v F' => NewRow F F' v (List.replicate 240 x) ∧ Ext F F') := by
  (refine fn_walk tab_ok Tryd.func110 rfl rfl rfl rfl ?_; (conv => whnf))
  refine call_of (mulBitsb F) ?_
  rintro v F2 ⟨rfl, rfl⟩
  ((conv => whnf); repeat (first | (apply load_at; (conv => lhs; whnf); (with_reducible assumption); rfl; (conv => whnf)) | (apply load_at; (conv => lhs; rw [add_plain, add_plain]); (with_reducible assumption); rfl; (conv => whnf)) | (apply loads_at; (conv => lhs; whnf); (with_reducible assumption); rfl; (conv => whnf)) | (refine ⟨⟨by omega, by omega⟩, ?_⟩; (conv => whnf))))
  refine makeNoZero 240 _ rfl (by decide) fun g cs N hg hN hcs => ?_
  have hE := Ext.new hg (.cells cs 5)
  have hB := Heap.put_same F2 g (.cells cs 5)
  generalize F2.put g _ = F3 at hE hB ⊢
  have hr3 := hr.mono hE
  (conv => whnf)
  refine ⟨⟨by decide, by rw [show IntKind.i64.wrap 240 = 240 by decide]; omega⟩, ?_⟩
  (conv => whnf)
  refine ⟨⟨by decide, by decide⟩, ?_⟩
  (conv => whnf)
  refine copy_to (g := g) (off := 0) (dl := 240) (dc := 240) (m := 1) (ys := bytesOf [x]) (y := .slice A 1 c) tab_ok rfl ?hp rfl rfl rfl rfl ⟨rfl, .inl ⟨_, _, rfl, hr3⟩⟩ hB (Nat.le_refl 0) (by omega) (hone_bytes [x]) ?_
  case hp => rfl
  (conv => whnf)
  refine loop_slots [7, 8, 9, 10] (fun k vs F' => ∃ (bp : Nat) (cs' : Array Value), bp + k = 240 ∧ 1 ≤ bp ∧ vs = [.int .i64 240, .int .i64 240, .slice (some ⟨g, 0, none⟩) 240 240, .int .i64 (bp : Int)] ∧ F' g = some (.cells cs' 5) ∧ cs'.size = N ∧ cs'.toList.take bp = bytesOf (List.replicate bp x) ∧ Ext F2 F') 239 ?_ ?_
  · refine ⟨1, _, rfl, Nat.le_refl 1, ?_, Heap.put_same _ _ _, ?_, ?_, hE.put hg _⟩
    · rfl
    · rw [List.size_toArray, length_putL, Array.length_toList, hcs]
    · exact putL_take (vs := bytesOf [x]) (off := 0) (by show 0 + 1 ≤ cs.toList.length; rw [Array.length_toList, hcs]; omega)
  rintro k vs F4 ρ ⟨bp, cs', hbk, hbp, rfl, hB4, hcs', htk, hE4⟩
  (conv => whnf)
  refine cond_split (fun h => ?_) (fun h => ?_)
  · have hlt : bp < 240 := by
      have : (bp : Int) < 240 := of_decide_eq_true h
      omega
    (conv => whnf)
    refine draw_walk tab_ok (by kernel_rfl) [0, 1, 2, 3, 4, 5, 6, 7, 8, 9] (by kernel_rfl) ?_
    (conv => whnf)
    refine ⟨⟨by omega, by omega⟩, ?_⟩
    (conv => whnf)
    refine ⟨⟨by omega, ?hb⟩, ?_⟩
    case hb => split <;> omega
    (conv => whnf)
    refine copy_to (g := g) (off := bp) (dl := 240 - bp) (dc := 240 - bp) (m := bp) (ys := bytesOf (List.replicate bp x)) (y := .slice (some ⟨g, 0, none⟩) bp 240) tab_ok rfl ?hp ?hq rfl rfl rfl ⟨by simp [bytesOf], .inl ⟨_, _, rfl, by rw [← htk]; exact (row_blk hB4).take bp⟩⟩ hB4 (Nat.le_refl 0) (by omega) (hone_bytes _) ?_
    case hp =>
      conv => lhs; whnf
      refine slice_eq ?_ (by omega) (by omega)
      rw [if_neg (by omega), Int.toNat_natCast]
      show some (Addr.add ⟨g, 0, none⟩ (bp * 1)) = _
      rw [add_plain, Nat.zero_add, Nat.mul_one]
    case hq =>
      conv => lhs; whnf
      refine slice_eq rfl ?_ rfl
      rw [if_neg (by omega)]
      omega
    have hmb : min bp (240 - bp) ≤ bp := by omega
    have hle : bp + min bp (240 - bp) ≤ 240 := by omega
    have hpos : 1 ≤ min bp (240 - bp) := by omega
    generalize min bp (240 - bp) = mn at hle hpos hmb ⊢
    (conv => whnf)
    refine ⟨240 - (bp + mn), by omega, bp + mn, _, by omega, by omega, ?_, Heap.put_same _ _ _, ?_, ?_, hE4.put hg _⟩
    · show [Value.int .i64 240, .int .i64 240, .slice (some ⟨g, 0, none⟩) 240 240, .int .i64 (IntKind.i64.wrap ((bp : Int) + (mn : Int)))] = _
      rw [wrap_eq (by omega) (by omega)]
      rfl
    · rw [List.size_toArray, length_putL, Array.length_toList, hcs']
    · have hlen : (List.take mn (bytesOf (List.replicate bp x))).length = mn := by simp [bytesOf]; omega
      have := putL_take (vs := List.take mn (bytesOf (List.replicate bp x))) (cs := cs'.toList) (off := bp) (by rw [hlen, Array.length_toList, hcs']; omega)
      rw [hlen, htk] at this
      rw [List.toList_toArray, this]
      unfold bytesOf
      rw [← List.map_take, ← List.map_append, List.take_replicate, List.replicate_append_replicate, Nat.min_eq_left hmb]
  · have hlt : bp = 240 := by
      have : ¬ (bp : Int) < 240 := of_decide_eq_false h
      omega
    subst hlt
    (conv => whnf)
    refine ⟨⟨some ⟨g, 0, none⟩, 240, rfl, Nat.le_refl _, ?_, fun a ha => by obtain rfl := Option.some.inj ha; exact hg⟩, hE4⟩
    rw [← htk]
    exact (row_blk hB4).take 240
theorem page6 (x : UInt8) (F : Heap) : FnK Tryd.prog 69 #[.int .u8 x.toNat] F (fun v F' => NewRow F F' v (List.replicate 240 x) ∧ Ext F F') := by
  (refine fn_walk tab_ok Tryd.func69 rfl rfl rfl rfl ?_; (conv => whnf))
  refine new_step (.cells #[.int .u8 x.toNat] 5) rfl fun g h0_g => ?_
  have hE_g := Ext.new h0_g (.cells #[.int .u8 x.toNat] 5)
  have hB_g := Heap.put_same F g (.cells #[.int .u8 x.toNat] 5)
  generalize F.put g _ = F1 at hE_g hB_g ⊢
  (conv => whnf)
  refine call_of (repeat240 x (some ⟨g, 0, none⟩) 1 F1 ?_) ?_
  · exact row_blk hB_g
  rintro v F2 ⟨⟨A, c, rfl, h1, h2, h3⟩, hE⟩
  ((conv => whnf); repeat (first | (apply load_at; (conv => lhs; whnf); (with_reducible assumption); rfl; (conv => whnf)) | (apply load_at; (conv => lhs; rw [add_plain, add_plain]); (with_reducible assumption); rfl; (conv => whnf)) | (apply loads_at; (conv => lhs; whnf); (with_reducible assumption); rfl; (conv => whnf)) | (refine ⟨⟨by omega, by omega⟩, ?_⟩; (conv => whnf))))
  exact ⟨⟨A, c, rfl, h1, h2, fun a ha => hE_g.none (h3 a ha)⟩, hE_g.trans hE⟩
end Go.Proofs.YtmpiggcooboenaaDoor.Al
/- The laws' own words: some, all. -/
namespace Go.Proofs.YtmpiggcooboenaaDoor.Al
open Go Go.Al Go.Proofs Go.RowKit
set_option maxHeartbeats 8000000
set_option maxRecDepth 100000
set_option linter.unusedVariables false
set_option linter.unusedSimpArgs false
theorem indexI (id : Nat) (caps : List Value) (P : PcR → Bool) (ds : List PcR) (A : Option Addr) (c : Nat) (F : Heap) (hr : RowAt F A (rowS pcC ds)) (hl : ds.length ≤ 100000)
    (hf : ∀ d ∈ ds, ∀ G, Ext F G → FnK Tryd.prog id ([Value.agg (pcC d).toArray] ++ caps).toArray G (fun v F' => v = .bool (P d) ∧ Ext G F')) :
    FnK Tryd.prog 111 #[.slice A ds.length c, .func (.func id) #[] caps.toArray] F (fun v F' => (∃ r : Int, v = .int .i64 r ∧ decide (r ≥ 0) = ds.any P) ∧ Ext F F') := by
  (refine fn_walk tab_ok Tryd.func111 rfl rfl rfl rfl ?_; (conv => whnf))
  refine loop_slots [0, 1, 7, 8] (fun mm vs F' => ∃ j : Nat, j + mm = ds.length ∧ vs = [.slice A ds.length c, .func (.func id) #[] caps.toArray, .int .i64 (ds.length : Int), .int .i64 (j : Int)] ∧ (ds.take j).any P = false ∧ Ext F F') ds.length ⟨0, by omega, rfl, rfl, Ext.refl F⟩ ?_
  rintro mm vs F2 ρ ⟨j, hjm, rfl, hix, hE2⟩
  (conv => whnf)
  refine cond_split (fun h => ?_) (fun h => ?_)
  · have hj : j < ds.length := by have := of_decide_eq_true h; omega
    obtain ⟨ad, rfl⟩ := hr.some (by rw [rowS_len pcC_len]; omega)
    have hf1 := hf ds[j] (List.getElem_mem hj) F2 hE2
    have hx : ds[j]? = some ds[j] := List.getElem?_eq_getElem hj
    have hstep : (ds.take (j + 1)).any P = P ds[j] := by
      rw [List.take_add_one, hx, Option.toList_some, List.any_append, hix]
      simp
    have hL : ∀ K : Value → Prop, K (.agg (pcC ds[j]).toArray) → LoadsK F2 (ad.add (Int.toNat (j : Int) * 2)) 2 K := fun K hk => rowS_loads pcC_len (by decide) (hr.mono hE2) hx hk
    have hex : P ds[j] = true → ds.any P = true := fun e => List.any_eq_true.2 ⟨_, List.getElem_mem hj, e⟩
    generalize ds[j] = r at hf1 hL hstep hex
    generalize P r = z at hf1 hstep hex
    (conv => whnf)
    refine ⟨⟨by omega, by omega⟩, ?_⟩
    (conv => whnf)
    refine hL _ ?_
    (conv => whnf)
    refine call_of hf1 ?_
    rintro v F3 ⟨rfl, hE3⟩
    replace hE3 := hE2.trans hE3
    cases z with
    | true =>
      have := hex rfl
      (conv => whnf)
      exact ⟨⟨(j : Int), rfl, by rw [this]; simp⟩, hE3⟩
    | false =>
      (conv => whnf)
      refine ⟨mm - 1, by omega, j + 1, by omega, ?_, hstep, hE3⟩
      have hw : IntKind.i64.wrap ((j : Int) + 1) = ((j + 1 : Nat) : Int) := by rw [IntKind.wrap_i64]; omega
      rw [← hw]
      rfl
  · have hj : j = ds.length := by have := of_decide_eq_false h; omega
    rw [hj, List.take_length] at hix
    (conv => whnf)
    exact ⟨⟨-1, rfl, by rw [hix]; rfl⟩, hE2⟩
theorem containsI (id : Nat) (caps : List Value) (P : PcR → Bool) (ds : List PcR) (A : Option Addr) (c : Nat) (F : Heap) (hr : RowAt F A (rowS pcC ds)) (hl : ds.length ≤ 100000)
    (hf : ∀ d ∈ ds, ∀ G, Ext F G → FnK Tryd.prog id ([Value.agg (pcC d).toArray] ++ caps).toArray G (fun v F' => v = .bool (P d) ∧ Ext G F')) :
    FnK Tryd.prog 71 #[.slice A ds.length c, .func (.func id) #[] caps.toArray] F (fun v F' => v = .bool (ds.any P) ∧ Ext F F') := by
  have hi := indexI id caps P ds A c F hr hl hf
  generalize ds.any P = q at hi
  (refine fn_walk tab_ok Tryd.func71 rfl rfl rfl rfl ?_; (conv => whnf))
  refine call_of hi ?_
  rintro v F1 ⟨⟨r, rfl, hr'⟩, hE⟩
  (conv => whnf)
  exact ⟨congrArg Value.bool hr', hE⟩
theorem isPage (d : PcR) (p : PcR) (g : Nat) (F : Heap) (hp : F g = some (imO p)) :
    FnK Tryd.prog 72 ([Value.agg (pcC d).toArray] ++ [Value.pointer (some ⟨g, 0, none⟩)]).toArray F (fun v F' => v = .bool (d.at_ == p.at_) ∧ Ext F F') := by
  (refine fn_walk tab_ok Tryd.func72 rfl rfl rfl rfl ?_; (conv => whnf))
  refine new_step (.cells (pcC d).toArray 67) rfl fun t h0_t => ?_
  have hE_t := Ext.new h0_t (.cells (pcC d).toArray 67)
  have hB_t := Heap.put_same F t (.cells (pcC d).toArray 67)
  generalize F.put t _ = F1 at hE_t hB_t ⊢
  have hp1 := hE_t _ _ hp
  ((conv => whnf); repeat (first | (apply load_at; (conv => lhs; whnf); (with_reducible assumption); rfl; (conv => whnf)) | (apply load_at; (conv => lhs; rw [add_plain, add_plain]); (with_reducible assumption); rfl; (conv => whnf)) | (apply loads_at; (conv => lhs; whnf); (with_reducible assumption); rfl; (conv => whnf)) | (refine ⟨⟨by omega, by omega⟩, ?_⟩; (conv => whnf))))
  exact ⟨rfl, hE_t⟩
/-- Images of pages, each once, as the law makes them. -/
def someS (y : UInt8) : Nat → List UInt8 → List (Int × List UInt8) → List (Int × List UInt8)
  | _, [], acc => acc
  | i, n :: l, acc => someS y (i + 1) l (if acc.any (fun d => d.1 == ((n.toNat % 13 : Nat) : Int)) = true then acc else acc ++ [(((n.toNat % 13 : Nat) : Int), List.replicate 240 (y + UInt8.ofNat i))])
theorem u8_of (i : Nat) : IntKind.u8.wrap (i : Int) = ((UInt8.ofNat i).toNat : Int) := by
  rw [u8_wrap, UInt8.toNat_ofNat']
  omega
theorem u8_add (a b : UInt8) : IntKind.u8.wrap ((a.toNat : Int) + (b.toNat : Int)) = ((a + b).toNat : Int) := by
  rw [u8_wrap, UInt8.toNat_add]
  omega
theorem some6 (l : List UInt8) (y : UInt8) (A : Option Addr) (c : Nat) (F : Heap) (hr : RowAt F A (bytesOf l)) (hl : l.length ≤ 1000) :
    FnK Tryd.prog 26 #[.slice A l.length c, .int .u8 y.toNat] F (fun v F' => (∃ (ps : List PcR) (B : Option Addr) (c' : Nat), v = .slice B ps.length c' ∧ RowAt F' B (rowS pcC ps) ∧ (∀ a, B = some a → F a.block = none) ∧ (∀ p ∈ ps, PcOk F' p ∧ ∀ a, p.A = some a → F a.block = none) ∧ ps.map pcW = someS y 0 l []) ∧ Ext F F') := by
  obtain ⟨res, hres⟩ : ∃ r, r = someS y 0 l [] := ⟨_, rfl⟩
  rw [← hres]
  (refine fn_walk tab_ok Tryd.func26 rfl rfl rfl rfl ?_; (conv => whnf))
  refine loop_slots [1, 5, 9, 10, 11] (fun k vs F' => ∃ (i : Nat) (S : Value) (ps : List PcR) (G : Heap), i + k = l.length ∧ ps.length ≤ i ∧ vs = [.int .u8 y.toNat, S, .slice A l.length c, .int .i64 (l.length : Int), .int .i64 (i : Int)] ∧ Mine F F' S 67 2 ps.length (rowS pcC ps) ∧ PcsK F F' S ps G ∧ res = someS y i (l.drop i) (ps.map pcW)) l.length ⟨0, .slice none 0 0, [], F, by omega, Nat.le_refl 0, rfl, Mine.nil _ _ _ _ (Ext.refl _), ⟨Ext.refl _, (fun k h => by cases h), (fun p h => by cases h), fun p h => by cases h⟩, hres⟩ ?_
  rintro k vs F2 ρ ⟨i, S, ps, G, hik, hpi, rfl, hM, hP, hrs⟩
  ((conv => whnf); repeat (first | (apply load_at; (conv => lhs; whnf); (with_reducible assumption); rfl; (conv => whnf)) | (apply load_at; (conv => lhs; rw [add_plain, add_plain]); (with_reducible assumption); rfl; (conv => whnf)) | (apply loads_at; (conv => lhs; whnf); (with_reducible assumption); rfl; (conv => whnf)) | (refine ⟨⟨by omega, by omega⟩, ?_⟩; (conv => whnf))))
  refine cond_split (fun h => ?_) (fun h => ?_)
  · have hi : i < l.length := by
      have h : decide ((i : Int) < (l.length : Int)) = true := h
      have := of_decide_eq_true h
      omega
    obtain ⟨ad, rfl⟩ := hr.some (by rw [bytes_len]; omega)
    rw [List.drop_eq_getElem_cons hi] at hrs
    have hcl := byte_cell (hr.mono hM.ext) hi
    generalize l[i] = x at hrs hcl
    have hm13 : ((x.toNat : Int).tmod 13) = ((x.toNat % 13 : Nat) : Int) := by rw [Int.tmod_eq_emod_of_nonneg (by omega)]; omega
    replace hrs : res = someS y (i + 1) (l.drop (i + 1)) (if (ps.map pcW).any (fun d => d.1 == ((x.toNat % 13 : Nat) : Int)) = true then ps.map pcW else ps.map pcW ++ [(((x.toNat % 13 : Nat) : Int), List.replicate 240 (y + UInt8.ofNat i))]) := hrs
    have hany : (ps.map pcW).any (fun d => d.1 == ((x.toNat % 13 : Nat) : Int)) = ps.any (fun d => d.at_ == ((x.toNat % 13 : Nat) : Int)) := by rw [List.any_map]; rfl
    rw [hany] at hrs
    have hmm : x.toNat % 13 < 13 := Nat.mod_lt _ (by decide)
    generalize x.toNat % 13 = m at hm13 hrs hmm
    have hpg := fun F => page6 (y + UInt8.ofNat i) F
    rw [← u8_add, ← u8_of i] at hpg
    generalize y + UInt8.ofNat i = z at hpg hrs
    ((conv => whnf); repeat (first | (apply load_at; (conv => lhs; whnf); (with_reducible assumption); rfl; (conv => whnf)) | (apply load_at; (conv => lhs; rw [add_plain, add_plain]); (with_reducible assumption); rfl; (conv => whnf)) | (apply loads_at; (conv => lhs; whnf); (with_reducible assumption); rfl; (conv => whnf)) | (refine ⟨⟨by omega, by omega⟩, ?_⟩; (conv => whnf))))
    refine load_step hcl ?_
    ((conv => whnf); repeat (first | (apply load_at; (conv => lhs; whnf); (with_reducible assumption); rfl; (conv => whnf)) | (apply load_at; (conv => lhs; rw [add_plain, add_plain]); (with_reducible assumption); rfl; (conv => whnf)) | (apply loads_at; (conv => lhs; whnf); (with_reducible assumption); rfl; (conv => whnf)) | (refine ⟨⟨by omega, by omega⟩, ?_⟩; (conv => whnf))))
    refine ⟨by decide, ?_⟩
    ((conv => whnf); repeat (first | (apply load_at; (conv => lhs; whnf); (with_reducible assumption); rfl; (conv => whnf)) | (apply load_at; (conv => lhs; rw [add_plain, add_plain]); (with_reducible assumption); rfl; (conv => whnf)) | (apply loads_at; (conv => lhs; whnf); (with_reducible assumption); rfl; (conv => whnf)) | (refine ⟨⟨by omega, by omega⟩, ?_⟩; (conv => whnf))))
    rw [hm13]
    refine call_of (hpg F2) ?_
    rintro v F3 ⟨⟨B, bc, rfl, hbc, hbr, hbf⟩, hE3⟩
    ((conv => whnf); repeat (first | (apply load_at; (conv => lhs; whnf); (with_reducible assumption); rfl; (conv => whnf)) | (apply load_at; (conv => lhs; rw [add_plain, add_plain]); (with_reducible assumption); rfl; (conv => whnf)) | (apply loads_at; (conv => lhs; whnf); (with_reducible assumption); rfl; (conv => whnf)) | (refine ⟨⟨by omega, by omega⟩, ?_⟩; (conv => whnf))))
    refine new_step (.cells #[.int .i64 0, .slice none 0 0] 67) rfl fun u h0_u => ?_
    have hE_u := Ext.new h0_u (.cells #[.int .i64 0, .slice none 0 0] 67)
    have hB_u := Heap.put_same F3 u (.cells #[.int .i64 0, .slice none 0 0] 67)
    generalize F3.put u _ = F4 at hE_u hB_u ⊢
    ((conv => whnf); repeat (first | (apply load_at; (conv => lhs; whnf); (with_reducible assumption); rfl; (conv => whnf)) | (apply load_at; (conv => lhs; rw [add_plain, add_plain]); (with_reducible assumption); rfl; (conv => whnf)) | (apply loads_at; (conv => lhs; whnf); (with_reducible assumption); rfl; (conv => whnf)) | (refine ⟨⟨by omega, by omega⟩, ?_⟩; (conv => whnf))))
    rw [wrap_eq (show -9223372036854775808 ≤ ((m : Nat) : Int) by omega) (by omega)]
    refine store_step u 0 _ (pcC ⟨(m : Int), List.replicate 240 z, B, bc⟩).toArray rfl hB_u rfl rfl (.inl (Nat.le_refl 0)) (pc_one ⟨(m : Int), List.replicate 240 z, B, bc⟩) ?_
    have hB5 := Heap.put_same F4 u (imO ⟨(m : Int), List.replicate 240 z, B, bc⟩)
    have hE5 : Ext F3 (F4.put u (imO ⟨(m : Int), List.replicate 240 z, B, bc⟩)) := hE_u.put h0_u _
    generalize F4.put u _ = F5 at hB5 hE5 ⊢
    have hE25 := hE3.trans hE5
    have hM5 := hM.mono hE25
    have hT5 : RowAt F5 B (bytesOf (List.replicate 240 z)) := hbr.mono hE5
    obtain ⟨SA, Sc, hSe, _, hSr⟩ := hM5.own.row
    have kI := containsI 72 [.pointer (some ⟨u, 0, none⟩)] (fun d => d.at_ == (m : Int)) ps SA Sc F5 hSr (by omega) (fun d hd G hG => isPage d ⟨(m : Int), List.replicate 240 z, B, bc⟩ u G (hG _ _ hB5))
    rw [← hSe] at kI
    generalize (ps.any fun d => d.at_ == (m : Int)) = w at kI hrs
    refine short [1, 5, 8, 9, 10, 11] [.int .u8 y.toNat, S, .pointer (some ⟨u, 0, none⟩), .slice (some ad) l.length c, .int .i64 (l.length : Int), .int .i64 (i : Int)] rfl fun ρ => ?_
    ((conv => whnf); repeat (first | (apply load_at; (conv => lhs; whnf); (with_reducible assumption); rfl; (conv => whnf)) | (apply load_at; (conv => lhs; rw [add_plain, add_plain]); (with_reducible assumption); rfl; (conv => whnf)) | (apply loads_at; (conv => lhs; whnf); (with_reducible assumption); rfl; (conv => whnf)) | (refine ⟨⟨by omega, by omega⟩, ?_⟩; (conv => whnf))))
    refine call_of kI ?_
    rintro v F6 ⟨rfl, hE6⟩
    have hE26 := hE25.trans hE6
    have hB6 := hE6 _ _ hB5
    have hM6 := hM5.mono hE6
    have hG1 : Ext (gain G F2 F5) F6 := fun zz o hz => by
      cases e : F2 zz with
      | none => rw [gain_new e] at hz; exact hE6 _ _ hz
      | some uu => rw [gain_old e] at hz; exact hE26 _ _ (hP.base _ _ hz)
    have hG0 : ∀ k, blk S = some k → gain G F2 F5 k = none := fun k hk => by
      cases e : F2 k with
      | none => exact absurd e (hM.own.there hk)
      | some uu => rw [gain_old e]; exact hP.out k hk
    have hGG : Ext G (gain G F2 F5) := gain_ext hP.base
    refine short [1, 5, 8, 9, 10, 11, 27] [.int .u8 y.toNat, S, .pointer (some ⟨u, 0, none⟩), .slice (some ad) l.length c, .int .i64 (l.length : Int), .int .i64 (i : Int), .bool w] rfl fun ρ => ?_
    cases w with
    | true =>
      rw [if_pos rfl] at hrs
      ((conv => whnf); repeat (first | (apply load_at; (conv => lhs; whnf); (with_reducible assumption); rfl; (conv => whnf)) | (apply load_at; (conv => lhs; rw [add_plain, add_plain]); (with_reducible assumption); rfl; (conv => whnf)) | (apply loads_at; (conv => lhs; whnf); (with_reducible assumption); rfl; (conv => whnf)) | (refine ⟨⟨by omega, by omega⟩, ?_⟩; (conv => whnf))))
      refine ⟨k - 1, by omega, i + 1, S, ps, gain G F2 F5, by omega, by omega, ?_, hM6, ⟨hG1, hG0, fun p hp => (hP.ok p hp).mono hGG, hP.new⟩, hrs⟩
      rw [← wrap_succ (j := i) (by omega)]
      rfl
    | false =>
      rw [if_neg (by decide)] at hrs
      ((conv => whnf); repeat (first | (apply load_at; (conv => lhs; whnf); (with_reducible assumption); rfl; (conv => whnf)) | (apply load_at; (conv => lhs; rw [add_plain, add_plain]); (with_reducible assumption); rfl; (conv => whnf)) | (apply loads_at; (conv => lhs; whnf); (with_reducible assumption); rfl; (conv => whnf)) | (refine ⟨⟨by omega, by omega⟩, ?_⟩; (conv => whnf))))
      refine new_step (.cells (rowS pcC [(⟨(m : Int), List.replicate 240 z, B, bc⟩ : PcR)]).toArray 67) rfl fun g h0_g => ?_
      have hE_g := Ext.new h0_g (.cells (rowS pcC [(⟨(m : Int), List.replicate 240 z, B, bc⟩ : PcR)]).toArray 67)
      have hB_g := Heap.put_same F6 g (.cells (rowS pcC [(⟨(m : Int), List.replicate 240 z, B, bc⟩ : PcR)]).toArray 67)
      generalize F6.put g _ = F7 at hE_g hB_g ⊢
      have hM7 := hM6.mono hE_g
      have hrow := row_blk hB_g
      rw [List.toList_toArray] at hrow
      ((conv => whnf); repeat (first | (apply load_at; (conv => lhs; whnf); (with_reducible assumption); rfl; (conv => whnf)) | (apply load_at; (conv => lhs; rw [add_plain, add_plain]); (with_reducible assumption); rfl; (conv => whnf)) | (apply loads_at; (conv => lhs; whnf); (with_reducible assumption); rfl; (conv => whnf)) | (refine ⟨⟨by omega, by omega⟩, ?_⟩; (conv => whnf))))
      refine append_own tab_ok (s := S) (n := ps.length) (xs := rowS pcC ps) (m := 1) (ys := rowS pcC [(⟨(m : Int), List.replicate 240 z, B, bc⟩ : PcR)]) (y := .slice (some ⟨g, 0, none⟩) 1 1) rfl rfl rfl rfl rfl ⟨_, rfl, fun k h => by cases h⟩ ⟨_, rfl, rfl⟩ (by decide) hM7.own ⟨rfl, .inl ⟨_, _, rfl, hrow⟩⟩ (pc_one _) (by show 2 * (ps.length + 1) * 32 ≤ _; omega) fun S2 F8 hO8 hk8 hf8 => ?_
      have hM8 : Mine F F8 S2 67 2 (ps ++ [(⟨(m : Int), List.replicate 240 z, B, bc⟩ : PcR)]).length (rowS pcC (ps ++ [(⟨(m : Int), List.replicate 240 z, B, bc⟩ : PcR)])) := by
        rw [rowS_app, List.length_append]
        refine ⟨hO8, fun k hk => ?_, hk8.ext hM7.ext hM7.fresh⟩
        rcases hf8 k hk with h | h
        · exact hM7.fresh k h
        · exact hM7.ext.none h
      have hG7 : Ext (gain G F2 F5) F7 := hG1.trans hE_g
      have hP8 : PcsK F F8 S2 (ps ++ [(⟨(m : Int), List.replicate 240 z, B, bc⟩ : PcR)]) (gain G F2 F5) := by
        refine ⟨hk8.ext hG7 hG0, fun k hk => ?_, fun x hx => ?_, fun x hx a ha => ?_⟩
        · rcases hf8 k hk with h | h
          · exact hG0 k h
          · exact hG7.none h
        · rcases List.mem_append.1 hx with hx | hx
          · exact (hP.ok x hx).mono hGG
          · rw [List.mem_singleton] at hx
            subst hx
            exact ⟨rowAt_gain hT5 hbf, by show (List.replicate 240 z).length ≤ 900000; rw [List.length_replicate]; omega⟩
        · rcases List.mem_append.1 hx with hx | hx
          · exact hP.new x hx a ha
          · rw [List.mem_singleton] at hx
            subst hx
            exact hM.ext.none (hbf a ha)
      ((conv => whnf); repeat (first | (apply load_at; (conv => lhs; whnf); (with_reducible assumption); rfl; (conv => whnf)) | (apply load_at; (conv => lhs; rw [add_plain, add_plain]); (with_reducible assumption); rfl; (conv => whnf)) | (apply loads_at; (conv => lhs; whnf); (with_reducible assumption); rfl; (conv => whnf)) | (refine ⟨⟨by omega, by omega⟩, ?_⟩; (conv => whnf))))
      refine ⟨k - 1, by omega, i + 1, S2, ps ++ [(⟨(m : Int), List.replicate 240 z, B, bc⟩ : PcR)], gain G F2 F5, by omega, by rw [List.length_append]; show ps.length + 1 ≤ i + 1; omega, ?_, hM8, hP8, ?_⟩
      · rw [← wrap_succ (j := i) (by omega)]
        rfl
      · rw [hrs]
        have e : (ps ++ [(⟨(m : Int), List.replicate 240 z, B, bc⟩ : PcR)]).map pcW = ps.map pcW ++ [((m : Int), List.replicate 240 z)] := List.map_append
        exact congrArg (someS y (i + 1) (l.drop (i + 1))) e.symm
  · have hi : i = l.length := by
      have := of_decide_eq_false h
      omega
    rw [List.drop_of_length_le (by omega)] at hrs
    obtain rfl : res = ps.map pcW := hrs
    obtain ⟨SA, Sc, rfl, _, hSr⟩ := hM.own.row
    ((conv => whnf); repeat (first | (apply load_at; (conv => lhs; whnf); (with_reducible assumption); rfl; (conv => whnf)) | (apply load_at; (conv => lhs; rw [add_plain, add_plain]); (with_reducible assumption); rfl; (conv => whnf)) | (apply loads_at; (conv => lhs; whnf); (with_reducible assumption); rfl; (conv => whnf)) | (refine ⟨⟨by omega, by omega⟩, ?_⟩; (conv => whnf))))
    exact ⟨⟨ps, SA, Sc, rfl, hSr, fun a ha => hM.fresh a.block (by rw [ha]; rfl), fun p hp => ⟨(hP.ok p hp).mono hP.base, hP.new p hp⟩, rfl⟩, hM.ext⟩
end Go.Proofs.YtmpiggcooboenaaDoor.Al
/- The laws' own words, 2: what some makes; a new log; all. -/
namespace Go.Proofs.YtmpiggcooboenaaDoor.Al
open Go Go.Al Go.Proofs Go.RowKit
set_option maxHeartbeats 8000000
set_option maxRecDepth 100000
set_option linter.unusedVariables false
set_option linter.unusedSimpArgs false
/-- Different numbers below n are no more than n. -/
theorem nodup_le : ∀ (n : Nat) (l : List Int), l.Nodup → (∀ x ∈ l, 0 ≤ x ∧ x < (n : Int)) → l.length ≤ n
  | 0, l, _, h => by
    cases l with
    | nil => exact Nat.le_refl 0
    | cons x l => have := h x List.mem_cons_self; omega
  | n + 1, l, hn, h => by
    have key : (l.filter fun x => x != (n : Int)).length ≤ n := nodup_le n _ (hn.filter _) fun x hx => by
      rw [List.mem_filter] at hx
      have h1 := h x hx.1
      have h2 : x ≠ (n : Int) := by simpa using hx.2
      omega
    have hc : l.length ≤ (l.filter fun x => x != (n : Int)).length + 1 := by
      clear key h
      induction l with
      | nil => exact Nat.zero_le _
      | cons x l ih =>
        rw [List.nodup_cons] at hn
        by_cases e : x = (n : Int)
        · have hf : l.filter (fun x => x != (n : Int)) = l := List.filter_eq_self.2 fun y hy => by
            have : y ≠ (n : Int) := fun e2 => hn.1 (by rw [e, ← e2]; exact hy)
            simpa using this
          rw [List.filter_cons_of_neg (by simpa using e), hf, List.length_cons]
          exact Nat.le_refl _
        · rw [List.filter_cons_of_pos (by simpa using e), List.length_cons, List.length_cons]
          have := ih hn.2
          omega
    omega
structure SomeOk (ps : List (Int × List UInt8)) : Prop where
  pg : ∀ p ∈ ps, (0 ≤ p.1 ∧ p.1 < 13) ∧ p.2.length = 240
  nod : (ps.map (·.1)).Nodup
theorem someS_ok (y : UInt8) : ∀ (l : List UInt8) (i : Nat) (acc : List (Int × List UInt8)), SomeOk acc → SomeOk (someS y i l acc)
  | [], i, acc, h => h
  | x :: l, i, acc, h => by
    have hm : x.toNat % 13 < 13 := Nat.mod_lt _ (by decide)
    show SomeOk (someS y (i + 1) l (if acc.any (fun d => d.1 == ((x.toNat % 13 : Nat) : Int)) = true then acc else acc ++ [(((x.toNat % 13 : Nat) : Int), List.replicate 240 (y + UInt8.ofNat i))]))
    generalize x.toNat % 13 = m at hm
    split
    · exact someS_ok y l (i + 1) acc h
    · next ha =>
      refine someS_ok y l (i + 1) _ ⟨fun p hp => ?_, ?_⟩
      · rcases List.mem_append.1 hp with hp | hp
        · exact h.pg p hp
        · rw [List.mem_singleton] at hp
          subst hp
          exact ⟨⟨by show (0 : Int) ≤ (m : Int); omega, by show (m : Int) < 13; omega⟩, List.length_replicate⟩
      · rw [List.map_append, List.nodup_append]
        refine ⟨h.nod, List.nodup_cons.2 ⟨List.not_mem_nil, List.nodup_nil⟩, fun a ha' b hb e => ?_⟩
        rw [List.map_cons, List.map_nil, List.mem_singleton] at hb
        obtain ⟨d, hd, e2⟩ := List.mem_map.1 ha'
        refine ha (List.any_eq_true.2 ⟨d, hd, ?_⟩)
        rw [beq_iff_eq, e2, e, hb]
theorem pages27 : pagesN 27 = 13 := by decide
theorem some_ims (y : UInt8) (l : List UInt8) {q : Int} (hq : 0 ≤ q ∧ q ≤ 4611686018427387904) : Ims 27 q (someS y 0 l []) := by
  have h := someS_ok y l 0 [] ⟨fun p hp => (by cases hp), List.nodup_nil⟩
  refine ⟨fun p hp => ⟨isPg_iff.2 (by rw [pages27]; exact (h.pg p hp).1), (h.pg p hp).2⟩, h.nod, ?_, hq⟩
  rw [pages27]
  have := nodup_le 13 _ h.nod fun x hx => by
    obtain ⟨p, hp, rfl⟩ := List.mem_map.1 hx
    exact (h.pg p hp).1
  rw [List.length_map] at this
  omega
theorem ims_nil {n q : Int} (hq : 0 ≤ q ∧ q ≤ 4611686018427387904) : Ims n q [] := ⟨fun p h => (by cases h), List.nodup_nil, (pagesN_le n).1, hq⟩
theorem new_up (n : Int) : Up (newS n) ∧ Calm (newS n) := ⟨⟨rfl, rfl⟩, ⟨fun _ => rfl, rfl⟩⟩
/-- A new log on a new disk. -/
abbrev fmtS (n : Int) : DS := (runW dsO (newS n) [(0, noteB 0 1)]).1
abbrev frsS (n : Int) : DS := (openS dsO (fmtS n)).1
structure Fresh (n : Int) (s : DS) : Prop where
  up : Up s
  wf : DWf s
  calm : Calm s
  size : s.size = n
  writes : s.writes = 1
  done : Done n 1 [] (secB s) (secB s)
  zero : ∀ k, k ≠ 0 → secB s k = List.replicate 256 0
theorem fmt_fresh {n : Int} (hn : 3 ≤ n ∧ n ≤ 65536) : (runW dsO (newS n) [(0, noteB 0 1)]).2 = 0 ∧ Fresh n (fmtS n) := by
  obtain ⟨u, c⟩ := new_up n
  have hI : Ims n 1 [] := ims_nil (by decide)
  have ho : OkW n [(0, noteB ((([] : List (Int × List UInt8)).length : Nat) : Int) 1)] := note_ok hn.1 hI
  obtain ⟨a1, a2, a3, a4, a5, a6, a7⟩ := runW_up [(0, noteB 0 1)] (newS n) u (newS_wf hn.1 hn.2) (by show (0 : Int) + ((1 : Nat) : Int) < _; omega) ho
  refine ⟨a1, a2, a3, a4, a7, a6.trans (by show (0 : Int) + ((1 : Nat) : Int) = 1; omega), ⟨⟨?_, fun j p h => (by cases h)⟩, fun x h => (by cases h), fun p _ _ => rfl⟩, fun k hk => ?_⟩
  · rw [a5, put_one, if_pos rfl]
    rfl
  · rw [a5, put_one, if_neg hk]
    rfl
theorem frs_fresh {n : Int} (hn : 3 ≤ n ∧ n ≤ 65536) : (openS dsO (fmtS n)).2 = (0, some 1) ∧ Fresh n (frsS n) := by
  obtain ⟨_, h⟩ := fmt_fresh hn
  show (openS dsO (fmtS n)).2 = (0, some 1) ∧ Fresh n (openS dsO (fmtS n)).1
  generalize fmtS n = s at h ⊢
  obtain ⟨u, w, c, sz, wr, d, z⟩ := h
  subst sz
  have hI : Ims s.size 1 [] := ims_nil (by decide)
  obtain ⟨b1, b2, b3, b4, b5, b6, b7, b8⟩ := open_up (cls_done (c0 := secB s) hn.1 hI) u w c (by omega) d
  obtain ⟨b9, b10⟩ := b8 [] (slots_whole hI d.slots)
  have e : secB (openS dsO s).1 = secB s := b9
  refine ⟨b1, b2, b3, b4, b5, by rw [b10, wr]; rfl, ?_, fun k hk => ?_⟩
  · show Done s.size 1 [] (secB (openS dsO s).1) (secB (openS dsO s).1)
    rw [e]; exact d
  · show secB (openS dsO s).1 k = _
    rw [e]; exact z k hk
/-- All pages, one behind the other. -/
def pgsN (g : Int → List UInt8) : Nat → List UInt8
  | 0 => []
  | n + 1 => pgsN g n ++ g (n : Int)
theorem pgsN_len {g : Int → List UInt8} (hg : ∀ p, (g p).length = 240) : ∀ n, (pgsN g n).length = n * 240
  | 0 => rfl
  | n + 1 => by
    show (pgsN g n ++ g (n : Int)).length = _
    rw [List.length_append, pgsN_len hg n, hg, Nat.succ_mul]
theorem all6 {D F : Heap} {b lb : Nat} {s : DS} {q : Int} (hE : Ext D F) (hD : Dk D b s) (hlg : F lb = some (lgO b q)) (hN : NibAt F) (hd : s.down = false) :
    FnK Tryd.prog 28 #[.pointer (some ⟨lb, 0, none⟩)] F (fun v F' => ∃ S, v = .tuple #[S, .bool true] ∧ Mine F F' S 5 1 (pgsN (pgOf s.size (secB s)) (pagesN s.size).toNat).length (bytesOf (pgsN (pgOf s.size (secB s)) (pagesN s.size).toNat))) := by
  have k1 := lgPages hE hD hlg
  have hle := pagesN_le s.size
  obtain ⟨P, hP⟩ : ∃ P : Nat, pagesN s.size = (P : Int) := ⟨(pagesN s.size).toNat, by omega⟩
  have k2 : ∀ (i : Nat) F', Ext F F' → i < P → FnK Tryd.prog 17 #[.pointer (some ⟨lb, 0, none⟩), .int .i64 (i : Int)] F' (fun v F'' => ∃ u, v = .tuple #[u, .int .i64 0] ∧ NewRow F' F'' u (pgOf s.size (secB s) (i : Int)) ∧ Ext F' F'') := fun i F' hF hi => by
    have := lgLoad (hE.trans hF) hD (hF _ _ hlg) (hN.mono hF) (i : Int)
    obtain ⟨e1, e2⟩ := load_c hd (p := (i : Int)) (isPg_iff.2 (by omega))
    rw [e1, e2] at this
    exact this
  have hpl := fun p => pg_len s.size (secB s) p
  have hpn := fun n => pgsN_len (g := pgOf s.size (secB s)) hpl n
  have hps : ∀ n, pgsN (pgOf s.size (secB s)) (n + 1) = pgsN (pgOf s.size (secB s)) n ++ pgOf s.size (secB s) (n : Int) := fun n => rfl
  have hp0 : pgsN (pgOf s.size (secB s)) 0 = [] := rfl
  rw [hP, Int.toNat_natCast]
  rw [hP] at k1 hle
  generalize pgsN (pgOf s.size (secB s)) = pn at hpn hps hp0 ⊢
  generalize pgOf s.size (secB s) = pg at k2 hps hpl
  (refine fn_walk tab_ok Tryd.func28 rfl rfl rfl rfl ?_; (conv => whnf))
  refine call_of k1 ?_
  rintro v F ⟨rfl, rfl⟩
  refine short [0, 4, 9] [.pointer (some ⟨lb, 0, none⟩), .slice none 0 0, .int .i64 (P : Int)] rfl fun ρ => ?_
  ((conv => whnf); repeat (first | (apply load_at; (conv => lhs; whnf); (with_reducible assumption); rfl; (conv => whnf)) | (apply load_at; (conv => lhs; rw [add_plain, add_plain]); (with_reducible assumption); rfl; (conv => whnf)) | (apply loads_at; (conv => lhs; whnf); (with_reducible assumption); rfl; (conv => whnf)) | (refine ⟨⟨by omega, by omega⟩, ?_⟩; (conv => whnf))))
  refine loop_slots [0, 4, 9, 10] (fun k vs F' => ∃ (i : Nat) (S : Value), i + k = P ∧ vs = [.pointer (some ⟨lb, 0, none⟩), S, .int .i64 (P : Int), .int .i64 (i : Int)] ∧ Mine F F' S 5 1 (pn i).length (bytesOf (pn i))) P ⟨0, .slice none 0 0, by omega, rfl, by rw [hp0]; exact Mine.nil _ _ _ _ (Ext.refl _)⟩ ?_
  rintro k vs F2 ρ ⟨i, S, hik, rfl, hM⟩
  ((conv => whnf); repeat (first | (apply load_at; (conv => lhs; whnf); (with_reducible assumption); rfl; (conv => whnf)) | (apply load_at; (conv => lhs; rw [add_plain, add_plain]); (with_reducible assumption); rfl; (conv => whnf)) | (apply loads_at; (conv => lhs; whnf); (with_reducible assumption); rfl; (conv => whnf)) | (refine ⟨⟨by omega, by omega⟩, ?_⟩; (conv => whnf))))
  refine cond_split (fun h => ?_) (fun h => ?_)
  · have hi : i < P := by
      have h : decide ((i : Int) < (P : Int)) = true := h
      have := of_decide_eq_true h
      omega
    ((conv => whnf); repeat (first | (apply load_at; (conv => lhs; whnf); (with_reducible assumption); rfl; (conv => whnf)) | (apply load_at; (conv => lhs; rw [add_plain, add_plain]); (with_reducible assumption); rfl; (conv => whnf)) | (apply loads_at; (conv => lhs; whnf); (with_reducible assumption); rfl; (conv => whnf)) | (refine ⟨⟨by omega, by omega⟩, ?_⟩; (conv => whnf))))
    refine call_of (k2 i F2 hM.ext hi) ?_
    rintro v F3 ⟨u, rfl, ⟨B, bc, rfl, hbc, hbr, hbf⟩, hE3⟩
    have hM3 := hM.mono hE3
    have hl1 := hpn i
    have hl2 := hpl (i : Int)
    have hl3 := hps i
    generalize pg (i : Int) = d at hbr hl2 hl3 hbc
    ((conv => whnf); repeat (first | (apply load_at; (conv => lhs; whnf); (with_reducible assumption); rfl; (conv => whnf)) | (apply load_at; (conv => lhs; rw [add_plain, add_plain]); (with_reducible assumption); rfl; (conv => whnf)) | (apply loads_at; (conv => lhs; whnf); (with_reducible assumption); rfl; (conv => whnf)) | (refine ⟨⟨by omega, by omega⟩, ?_⟩; (conv => whnf))))
    refine append_own tab_ok (s := S) (n := (pn i).length) (xs := bytesOf (pn i)) (m := d.length) (ys := bytesOf d) (y := .slice B d.length bc) rfl rfl rfl rfl rfl ⟨_, rfl, fun k h => by cases h⟩ ⟨_, rfl, rfl⟩ (by decide) hM3.own ⟨by rw [bytes_len]; exact (Nat.mul_one _).symm, .inl ⟨_, _, rfl, hbr⟩⟩ (hone_bytes _) (by show 2 * ((pn i).length + d.length) * 1 ≤ _; omega) fun S2 F4 hO4 hk4 hf4 => ?_
    have hM4 : Mine F F4 S2 5 1 (pn (i + 1)).length (bytesOf (pn (i + 1))) := by
      rw [hl3, bytes_app, List.length_append]
      refine ⟨hO4, fun k hk => ?_, hk4.ext hM3.ext hM3.fresh⟩
      rcases hf4 k hk with h | h
      · exact hM3.fresh k h
      · exact hM3.ext.none h
    ((conv => whnf); repeat (first | (apply load_at; (conv => lhs; whnf); (with_reducible assumption); rfl; (conv => whnf)) | (apply load_at; (conv => lhs; rw [add_plain, add_plain]); (with_reducible assumption); rfl; (conv => whnf)) | (apply loads_at; (conv => lhs; whnf); (with_reducible assumption); rfl; (conv => whnf)) | (refine ⟨⟨by omega, by omega⟩, ?_⟩; (conv => whnf))))
    refine ⟨k - 1, by omega, i + 1, S2, by omega, ?_, hM4⟩
    rw [← wrap_succ (j := i) (by omega)]
    rfl
  · have hi : i = P := by
      have := of_decide_eq_false h
      omega
    subst hi
    ((conv => whnf); repeat (first | (apply load_at; (conv => lhs; whnf); (with_reducible assumption); rfl; (conv => whnf)) | (apply load_at; (conv => lhs; rw [add_plain, add_plain]); (with_reducible assumption); rfl; (conv => whnf)) | (apply loads_at; (conv => lhs; whnf); (with_reducible assumption); rfl; (conv => whnf)) | (refine ⟨⟨by omega, by omega⟩, ?_⟩; (conv => whnf))))
    exact ⟨S, rfl, hM⟩
end Go.Proofs.YtmpiggcooboenaaDoor.Al
/- RedoLives: the law's calls, few and images, over what is known of memory. -/
namespace Go.Proofs.YtmpiggcooboenaaDoor.Al
open Go Go.Al Go.Proofs Go.RowKit
set_option maxHeartbeats 8000000
set_option maxRecDepth 100000
set_option linter.unusedVariables false
set_option linter.unusedSimpArgs false
structure LvR where
  op : Int
  i : Int
  byte : UInt8
  pgs : List Int
  P : Option Addr
  pc : Nat
  keep : List Int
  A : Option Addr
  c : Nat
def lvC (r : LvR) : List Value := [.int .i64 r.op, .int .i64 r.i, .int .u8 r.byte.toNat, .slice r.P r.pgs.length r.pc, .slice r.A r.keep.length r.c]
theorem lvC_len (r : LvR) : (lvC r).length = 5 := rfl
abbrev lvK : Kind (Int × (Int × (Int × ((List Int) × (List Int))))) := kPair 1 (kInt .i64) (kPair 1 (kInt .i64) (kPair 1 (kInt .u8) (kPair 1 (kSlice 1 (kInt .i64)) (kSlice 1 (kInt .i64)))))
abbrev lvWf : Int × (Int × (Int × ((List Int) × (List Int)))) → Prop := (fun p => (fun n => (Lit.int .i64 n).wf = true) p.1 ∧ (fun p => (fun n => (Lit.int .i64 n).wf = true) p.1 ∧ (fun p => (fun n => (Lit.int .u8 n).wf = true) p.1 ∧ (fun p => (fun xs => xs.length ≤ maxLen ∧ ∀ x ∈ xs, (fun n => (Lit.int .i64 n).wf = true) x) p.1 ∧ (fun xs => xs.length ≤ maxLen ∧ ∀ x ∈ xs, (fun n => (Lit.int .i64 n).wf = true) x) p.2) p.2) p.2) p.2)
structure LvOk (F : Heap) (r : LvR) : Prop where
  row : RowAt F r.A (r.keep.map (.int .i64))
  pgs : RowAt F r.P (r.pgs.map (.int .i64))
  i : -9223372036854775808 ≤ r.i ∧ r.i < 9223372036854775808
theorem LvOk.mono {F G : Heap} {r : LvR} (h : LvOk F r) (hE : Ext F G) : LvOk G r := ⟨h.row.mono hE, h.pgs.mono hE, h.i⟩
theorem lv_open {F : Heap} {A : Option Addr} {xs : List (Int × (Int × (Int × ((List Int) × (List Int)))))} (w : ∀ x ∈ xs, lvWf x) (h : Elems F A 5 lvK xs) : ∃ rs : List LvR, rs.length = xs.length ∧ RowAt F A (rowS lvC rs) ∧ ∀ r ∈ rs, LvOk F r := by
  obtain ⟨rs, h1, h2, h3⟩ := rowS_open (f := lvC) (Q := fun r _ => LvOk F r) lvC_len (by decide) w h (by
    rintro ⟨op, i, x, pgs, keep⟩ c hw hK
    obtain ⟨c1, d1, rfl, hl1, rfl, c2, d2, rfl, hl2, rfl, c3, d3, rfl, hl3, rfl, c4, d4, rfl, hl4, ⟨A', cc, rfl, hc, hE⟩, A2, cc2, rfl, hc2, hE2⟩ := hK
    obtain ⟨l, hl⟩ := bytes_of_wf (xs := [x]) (by intro y hy; rw [List.mem_singleton.1 hy]; exact hw.2.2.1)
    match l, hl with
    | [b], hl =>
      obtain rfl : x = (b.toNat : Int) := by simpa using hl
      exact ⟨⟨op, i, b, pgs, A', cc, keep, A2, cc2⟩, rfl, elems_ints hE2, elems_ints hE, wf_i64 hw.2.1⟩)
  refine ⟨rs, h1, h2, fun r hr => ?_⟩
  obtain ⟨j, hj, rfl⟩ := List.getElem_of_mem hr
  exact h3 j _ _ (List.getElem?_eq_getElem hj) (List.getElem?_eq_getElem (by omega))
def fewV (r : LvR) : Bool := decide (r.keep.length ≤ 60) && decide (r.pgs.length ≤ 30)
theorem fewV1 (r : LvR) (F : Heap) : FnK Tryd.prog 77 #[.agg (lvC r).toArray] F (fun v F' => v = .bool (!fewV r) ∧ Ext F F') := by
  obtain ⟨op, i, x, pgs, P, pc, keep, A, c⟩ := r
  have hf : fewV ⟨op, i, x, pgs, P, pc, keep, A, c⟩ = (decide (keep.length ≤ 60) && decide (pgs.length ≤ 30)) := rfl
  generalize fewV ⟨op, i, x, pgs, P, pc, keep, A, c⟩ = q at hf
  (refine fn_walk tab_ok Tryd.func77 rfl rfl rfl rfl ?_; (conv => whnf))
  refine new_step (.cells (lvC ⟨op, i, x, pgs, P, pc, keep, A, c⟩).toArray 82) rfl fun p h0_p => ?_
  have hE_p := Ext.new h0_p (.cells (lvC ⟨op, i, x, pgs, P, pc, keep, A, c⟩).toArray 82)
  have hB_p := Heap.put_same F p (.cells (lvC ⟨op, i, x, pgs, P, pc, keep, A, c⟩).toArray 82)
  generalize F.put p _ = F1 at hE_p hB_p ⊢
  ((conv => whnf); repeat (first | (apply load_at; (conv => lhs; whnf); (with_reducible assumption); rfl; (conv => whnf)) | (apply load_at; (conv => lhs; rw [add_plain, add_plain]); (with_reducible assumption); rfl; (conv => whnf)) | (apply loads_at; (conv => lhs; whnf); (with_reducible assumption); rfl; (conv => whnf)) | (refine ⟨⟨by omega, by omega⟩, ?_⟩; (conv => whnf))))
  refine cond_split (fun h => ?_) (fun h => ?_)
  · have h : (!decide ((keep.length : Int) > 60)) = true := h
    have h1 : keep.length ≤ 60 := by simp at h; omega
    rw [decide_eq_true h1, Bool.true_and] at hf
    ((conv => whnf); repeat (first | (apply load_at; (conv => lhs; whnf); (with_reducible assumption); rfl; (conv => whnf)) | (apply load_at; (conv => lhs; rw [add_plain, add_plain]); (with_reducible assumption); rfl; (conv => whnf)) | (apply loads_at; (conv => lhs; whnf); (with_reducible assumption); rfl; (conv => whnf)) | (refine ⟨⟨by omega, by omega⟩, ?_⟩; (conv => whnf))))
    refine ⟨congrArg Value.bool ?_, hE_p⟩
    show decide ((pgs.length : Int) > 30) = !q
    rw [hf, Bool.eq_iff_iff]
    simp
    omega
  · have h : (!decide ((keep.length : Int) > 60)) = false := h
    have h1 : ¬ keep.length ≤ 60 := by simp at h; omega
    rw [decide_eq_false h1, Bool.false_and] at hf
    ((conv => whnf); repeat (first | (apply load_at; (conv => lhs; whnf); (with_reducible assumption); rfl; (conv => whnf)) | (apply load_at; (conv => lhs; rw [add_plain, add_plain]); (with_reducible assumption); rfl; (conv => whnf)) | (apply loads_at; (conv => lhs; whnf); (with_reducible assumption); rfl; (conv => whnf)) | (refine ⟨⟨by omega, by omega⟩, ?_⟩; (conv => whnf))))
    refine ⟨congrArg Value.bool ?_, hE_p⟩
    rw [hf]
    rfl
theorem indexV (rs : List LvR) (A : Option Addr) (c : Nat) (F : Heap) (hr : RowAt F A (rowS lvC rs)) (hl : rs.length ≤ 1000) :
    FnK Tryd.prog 113 #[.slice A rs.length c, .func (.func 77) #[] #[]] F (fun v F' => (∃ r : Int, v = .int .i64 r ∧ decide (r ≥ 0) = !rs.all fewV) ∧ Ext F F') := by
  (refine fn_walk tab_ok Tryd.func113 rfl rfl rfl rfl ?_; (conv => whnf))
  refine loop_slots [0, 1, 7, 8] (fun k vs F' => ∃ j : Nat, j + k = rs.length ∧ vs = [.slice A rs.length c, .func (.func 77) #[] #[], .int .i64 (rs.length : Int), .int .i64 (j : Int)] ∧ (rs.take j).all fewV = true ∧ Ext F F') rs.length ⟨0, by omega, rfl, rfl, Ext.refl _⟩ ?_
  rintro k vs F2 ρ ⟨j, hjk, rfl, hall, hE2⟩
  (conv => whnf)
  refine cond_split (fun h => ?_) (fun h => ?_)
  · have hj : j < rs.length := by have := of_decide_eq_true h; omega
    obtain ⟨ad, rfl⟩ := hr.some (by rw [rowS_len lvC_len]; omega)
    have hx : rs[j]? = some rs[j] := List.getElem?_eq_getElem hj
    have hf := fewV1 rs[j]
    have hz : (rs.take (j + 1)).all fewV = fewV rs[j] := by
      rw [List.take_add_one, hx, List.all_append, hall]
      simp
    have hz2 : fewV rs[j] = false → rs.all fewV = false := fun e => by
      rw [← Bool.not_eq_true, List.all_eq_true]
      intro h
      rw [h _ (List.getElem_mem hj)] at e
      cases e
    have hL : ∀ K : Value → Prop, K (.agg (lvC rs[j]).toArray) → LoadsK F2 (ad.add (Int.toNat (j : Int) * 5)) 5 K := fun K hk => rowS_loads lvC_len (by decide) (hr.mono hE2) hx hk
    generalize fewV rs[j] = z at hf hz hz2
    generalize rs[j] = r at hf hL
    (conv => whnf)
    refine ⟨⟨by omega, by omega⟩, ?_⟩
    (conv => whnf)
    refine hL _ ?_
    (conv => whnf)
    refine call_of (hf F2) ?_
    rintro v F3 ⟨rfl, hE3⟩
    replace hE3 := hE2.trans hE3
    cases z with
    | false =>
      have := hz2 rfl
      (conv => whnf)
      refine ⟨⟨(j : Int), rfl, ?_⟩, hE3⟩
      rw [this]
      simp
    | true =>
      (conv => whnf)
      refine ⟨k - 1, by omega, j + 1, by omega, ?_, hz, hE3⟩
      have hw : IntKind.i64.wrap ((j : Int) + 1) = ((j + 1 : Nat) : Int) := by rw [IntKind.wrap_i64]; omega
      rw [← hw]
      rfl
  · have hj : j = rs.length := by have := of_decide_eq_false h; omega
    subst hj
    rw [List.take_length] at hall
    (conv => whnf)
    exact ⟨⟨-1, rfl, by rw [hall]; rfl⟩, hE2⟩
def fewVs (rs : List LvR) : Bool := decide (rs.length ≤ 30) && rs.all fewV
theorem fewVs_of {rs : List LvR} (h : fewVs rs = true) : rs.length ≤ 30 ∧ ∀ r ∈ rs, r.keep.length ≤ 60 ∧ r.pgs.length ≤ 30 := by
  unfold fewVs at h
  obtain ⟨h1, h2⟩ := Bool.and_eq_true_iff.1 h
  refine ⟨of_decide_eq_true h1, fun r hr => ?_⟩
  have h3 := List.all_eq_true.1 h2 r hr
  unfold fewV at h3
  obtain ⟨h4, h5⟩ := Bool.and_eq_true_iff.1 h3
  exact ⟨of_decide_eq_true h4, of_decide_eq_true h5⟩
theorem few6 (rs : List LvR) (A : Option Addr) (c : Nat) (F : Heap) (hr : RowAt F A (rowS lvC rs)) :
    FnK Tryd.prog 34 #[.slice A rs.length c] F (fun v F' => v = .bool (fewVs rs) ∧ Ext F F') := by
  have hc : rs.length ≤ 30 → FnK Tryd.prog 76 #[.slice A rs.length c, .func (.func 77) #[] #[]] F (fun v F' => v = .bool (!rs.all fewV) ∧ Ext F F') := fun hl => by
    have hi := indexV rs A c F hr (by omega)
    (refine fn_walk tab_ok Tryd.func76 rfl rfl rfl rfl ?_; (conv => whnf))
    refine call_of hi ?_
    rintro v F1 ⟨⟨r, rfl, hr'⟩, hE⟩
    (conv => whnf)
    exact ⟨congrArg Value.bool hr', hE⟩
  have hw : fewVs rs = (decide (rs.length ≤ 30) && rs.all fewV) := rfl
  generalize fewVs rs = w at hw
  generalize rs.all fewV = z at hc hw
  (refine fn_walk tab_ok Tryd.func34 rfl rfl rfl rfl ?_; (conv => whnf))
  refine cond_split (fun h => ?_) (fun h => ?_)
  · have h : decide ((rs.length : Int) ≤ 30) = true := h
    have h1 : rs.length ≤ 30 := by have := of_decide_eq_true h; omega
    rw [decide_eq_true h1, Bool.true_and] at hw
    (conv => whnf)
    refine call_of (hc h1) ?_
    rintro v F1 ⟨rfl, hE⟩
    (conv => whnf)
    exact ⟨congrArg Value.bool ((Bool.not_not z).trans hw.symm), hE⟩
  · have h : decide ((rs.length : Int) ≤ 30) = false := h
    have h1 : ¬ rs.length ≤ 30 := by have := of_decide_eq_false h; omega
    rw [decide_eq_false h1, Bool.false_and] at hw
    (conv => whnf)
    exact ⟨congrArg Value.bool hw.symm, Ext.refl _⟩
end Go.Proofs.YtmpiggcooboenaaDoor.Al
/- RedoLives: the law's images, over what is known of memory. -/
namespace Go.Proofs.YtmpiggcooboenaaDoor.Al
open Go Go.Al Go.Proofs Go.RowKit
set_option maxHeartbeats 8000000
set_option maxRecDepth 100000
set_option linter.unusedVariables false
set_option linter.unusedSimpArgs false
def u8I (n : Int) : UInt8 := UInt8.ofNat (n % 256).toNat
theorem u8I_of (n : Int) : IntKind.u8.wrap n = ((u8I n).toNat : Int) := by
  unfold u8I
  rw [u8_wrap, UInt8.toNat_ofNat']
  omega
def imgS (x : UInt8) (l : List Int) : List (Int × List UInt8) := l.map fun n => (n, List.replicate 240 (x + u8I n))
theorem images6 (r : LvR) (F : Heap) (hr : RowAt F r.P (r.pgs.map (.int .i64))) (hl : r.pgs.length ≤ 1000) :
    FnK Tryd.prog 41 #[.agg (lvC r).toArray] F (fun v F' => (∃ (ps : List PcR) (B : Option Addr) (c' : Nat), v = .slice B ps.length c' ∧ RowAt F' B (rowS pcC ps) ∧ (∀ a, B = some a → F a.block = none) ∧ (∀ p ∈ ps, PcOk F' p ∧ ∀ a, p.A = some a → F a.block = none) ∧ ps.map pcW = imgS r.byte r.pgs) ∧ Ext F F') := by
  obtain ⟨op, ii, x, l, P, pc, keep, A, c⟩ := r
  dsimp only at hr hl ⊢
  have hstep : ∀ i, (h : i < l.length) → imgS x (l.take (i + 1)) = imgS x (l.take i) ++ [(l[i], List.replicate 240 (x + u8I l[i]))] := fun i h => by
    unfold imgS
    rw [List.take_add_one, List.getElem?_eq_getElem h, List.map_append]
    rfl
  have hfull : imgS x (l.take l.length) = imgS x l := by rw [List.take_length]
  have h0 : imgS x (l.take 0) = [] := rfl
  generalize imgS x = im at hstep hfull h0
  (refine fn_walk tab_ok Tryd.func41 rfl rfl rfl rfl ?_; (conv => whnf))
  refine new_step (.cells (lvC ⟨op, ii, x, l, P, pc, keep, A, c⟩).toArray 82) rfl fun t h0_t => ?_
  have hE_t := Ext.new h0_t (.cells (lvC ⟨op, ii, x, l, P, pc, keep, A, c⟩).toArray 82)
  have hB_t := Heap.put_same F t (.cells (lvC ⟨op, ii, x, l, P, pc, keep, A, c⟩).toArray 82)
  generalize F.put t _ = F1 at hE_t hB_t ⊢
  replace hr := hr.mono hE_t
  ((conv => whnf); repeat (first | (apply load_at; (conv => lhs; whnf); (with_reducible assumption); rfl; (conv => whnf)) | (apply load_at; (conv => lhs; rw [add_plain, add_plain]); (with_reducible assumption); rfl; (conv => whnf)) | (apply loads_at; (conv => lhs; whnf); (with_reducible assumption); rfl; (conv => whnf)) | (refine ⟨⟨by omega, by omega⟩, ?_⟩; (conv => whnf))))
  refine loop_slots [1, 3, 7, 8, 9] (fun k vs F' => ∃ (i : Nat) (S : Value) (ps : List PcR) (G : Heap), i + k = l.length ∧ ps.length = i ∧ vs = [.pointer (some ⟨t, 0, none⟩), S, .slice P l.length pc, .int .i64 (l.length : Int), .int .i64 (i : Int)] ∧ Mine F1 F' S 67 2 ps.length (rowS pcC ps) ∧ PcsK F1 F' S ps G ∧ ps.map pcW = im (l.take i)) l.length ⟨0, .slice none 0 0, [], F1, by omega, rfl, rfl, Mine.nil _ _ _ _ (Ext.refl _), ⟨Ext.refl _, (fun k h => by cases h), (fun p h => by cases h), fun p h => by cases h⟩, h0.symm⟩ ?_
  rintro k vs F2 ρ ⟨i, S, ps, G, hik, hpi, rfl, hM, hP, hrs⟩
  ((conv => whnf); repeat (first | (apply load_at; (conv => lhs; whnf); (with_reducible assumption); rfl; (conv => whnf)) | (apply load_at; (conv => lhs; rw [add_plain, add_plain]); (with_reducible assumption); rfl; (conv => whnf)) | (apply loads_at; (conv => lhs; whnf); (with_reducible assumption); rfl; (conv => whnf)) | (refine ⟨⟨by omega, by omega⟩, ?_⟩; (conv => whnf))))
  refine cond_split (fun h => ?_) (fun h => ?_)
  · have hi : i < l.length := by
      have h : decide ((i : Int) < (l.length : Int)) = true := h
      have := of_decide_eq_true h
      omega
    obtain ⟨ad, rfl⟩ := hr.some (by rw [List.length_map]; omega)
    have hst := hstep i hi
    have hcl := one_cell (j := i) (v := .int .i64 l[i]) (hr.mono hM.ext) (by rw [List.getElem?_map, List.getElem?_eq_getElem hi]; rfl)
    have hBt := hM.ext _ _ hB_t
    generalize l[i] = n at hst hcl
    have hpg := fun F => page6 (x + u8I n) F
    rw [← u8_add, ← u8I_of n] at hpg
    generalize x + u8I n = z at hpg hst
    ((conv => whnf); repeat (first | (apply load_at; (conv => lhs; whnf); (with_reducible assumption); rfl; (conv => whnf)) | (apply load_at; (conv => lhs; rw [add_plain, add_plain]); (with_reducible assumption); rfl; (conv => whnf)) | (apply loads_at; (conv => lhs; whnf); (with_reducible assumption); rfl; (conv => whnf)) | (refine ⟨⟨by omega, by omega⟩, ?_⟩; (conv => whnf))))
    refine load_step hcl ?_
    ((conv => whnf); repeat (first | (apply load_at; (conv => lhs; whnf); (with_reducible assumption); rfl; (conv => whnf)) | (apply load_at; (conv => lhs; rw [add_plain, add_plain]); (with_reducible assumption); rfl; (conv => whnf)) | (apply loads_at; (conv => lhs; whnf); (with_reducible assumption); rfl; (conv => whnf)) | (refine ⟨⟨by omega, by omega⟩, ?_⟩; (conv => whnf))))
    refine call_of (hpg F2) ?_
    rintro v F3 ⟨⟨B, bc, rfl, hbc, hbr, hbf⟩, hE3⟩
    have hM3 := hM.mono hE3
    have hG3 : Ext (gain G F2 F3) F3 := fun zz o hz => by
      cases e : F2 zz with
      | none => rw [gain_new e] at hz; exact hz
      | some uu => rw [gain_old e] at hz; exact hE3 _ _ (hP.base _ _ hz)
    have hG0 : ∀ k, blk S = some k → gain G F2 F3 k = none := fun k hk => by
      cases e : F2 k with
      | none => exact absurd e (hM.own.there hk)
      | some uu => rw [gain_old e]; exact hP.out k hk
    have hGG : Ext G (gain G F2 F3) := gain_ext hP.base
    refine short [1, 3, 5, 7, 8, 9, 13, 14, 20] [.pointer (some ⟨t, 0, none⟩), S, .int .i64 n, .slice (some ad) l.length pc, .int .i64 (l.length : Int), .int .i64 (i : Int), S, .int .i64 n, .slice B (List.replicate 240 z).length bc] rfl fun ρ => ?_
    ((conv => whnf); repeat (first | (apply load_at; (conv => lhs; whnf); (with_reducible assumption); rfl; (conv => whnf)) | (apply load_at; (conv => lhs; rw [add_plain, add_plain]); (with_reducible assumption); rfl; (conv => whnf)) | (apply loads_at; (conv => lhs; whnf); (with_reducible assumption); rfl; (conv => whnf)) | (refine ⟨⟨by omega, by omega⟩, ?_⟩; (conv => whnf))))
    refine new_step (.cells (rowS pcC [(⟨n, List.replicate 240 z, B, bc⟩ : PcR)]).toArray 67) rfl fun g h0_g => ?_
    have hE_g := Ext.new h0_g (.cells (rowS pcC [(⟨n, List.replicate 240 z, B, bc⟩ : PcR)]).toArray 67)
    have hB_g := Heap.put_same F3 g (.cells (rowS pcC [(⟨n, List.replicate 240 z, B, bc⟩ : PcR)]).toArray 67)
    generalize F3.put g _ = F4 at hE_g hB_g ⊢
    have hM4 := hM3.mono hE_g
    have hrow := row_blk hB_g
    rw [List.toList_toArray] at hrow
    ((conv => whnf); repeat (first | (apply load_at; (conv => lhs; whnf); (with_reducible assumption); rfl; (conv => whnf)) | (apply load_at; (conv => lhs; rw [add_plain, add_plain]); (with_reducible assumption); rfl; (conv => whnf)) | (apply loads_at; (conv => lhs; whnf); (with_reducible assumption); rfl; (conv => whnf)) | (refine ⟨⟨by omega, by omega⟩, ?_⟩; (conv => whnf))))
    refine append_own tab_ok (s := S) (n := ps.length) (xs := rowS pcC ps) (m := 1) (ys := rowS pcC [(⟨n, List.replicate 240 z, B, bc⟩ : PcR)]) (y := .slice (some ⟨g, 0, none⟩) 1 1) rfl rfl rfl rfl rfl ⟨_, rfl, fun k h => by cases h⟩ ⟨_, rfl, rfl⟩ (by decide) hM4.own ⟨rfl, .inl ⟨_, _, rfl, hrow⟩⟩ (pc_one _) (by show 2 * (ps.length + 1) * 32 ≤ _; omega) fun S2 F5 hO5 hk5 hf5 => ?_
    have hM5 : Mine F1 F5 S2 67 2 (ps ++ [(⟨n, List.replicate 240 z, B, bc⟩ : PcR)]).length (rowS pcC (ps ++ [(⟨n, List.replicate 240 z, B, bc⟩ : PcR)])) := by
      rw [rowS_app, List.length_append]
      refine ⟨hO5, fun k hk => ?_, hk5.ext hM4.ext hM4.fresh⟩
      rcases hf5 k hk with h | h
      · exact hM4.fresh k h
      · exact hM4.ext.none h
    have hG4 : Ext (gain G F2 F3) F4 := hG3.trans hE_g
    have hP5 : PcsK F1 F5 S2 (ps ++ [(⟨n, List.replicate 240 z, B, bc⟩ : PcR)]) (gain G F2 F3) := by
      refine ⟨hk5.ext hG4 hG0, fun k hk => ?_, fun x hx => ?_, fun x hx a ha => ?_⟩
      · rcases hf5 k hk with h | h
        · exact hG0 k h
        · exact hG4.none h
      · rcases List.mem_append.1 hx with hx | hx
        · exact (hP.ok x hx).mono hGG
        · rw [List.mem_singleton] at hx
          subst hx
          exact ⟨rowAt_gain hbr hbf, by show (List.replicate 240 z).length ≤ 900000; rw [List.length_replicate]; omega⟩
      · rcases List.mem_append.1 hx with hx | hx
        · exact hP.new x hx a ha
        · rw [List.mem_singleton] at hx
          subst hx
          exact hM.ext.none (hbf a ha)
    ((conv => whnf); repeat (first | (apply load_at; (conv => lhs; whnf); (with_reducible assumption); rfl; (conv => whnf)) | (apply load_at; (conv => lhs; rw [add_plain, add_plain]); (with_reducible assumption); rfl; (conv => whnf)) | (apply loads_at; (conv => lhs; whnf); (with_reducible assumption); rfl; (conv => whnf)) | (refine ⟨⟨by omega, by omega⟩, ?_⟩; (conv => whnf))))
    refine ⟨k - 1, by omega, i + 1, S2, ps ++ [(⟨n, List.replicate 240 z, B, bc⟩ : PcR)], gain G F2 F3, by omega, by rw [List.length_append]; show ps.length + 1 = i + 1; omega, ?_, hM5, hP5, ?_⟩
    · rw [← wrap_succ (j := i) (by omega)]
      rfl
    · rw [hst, ← hrs]
      exact List.map_append
  · have hi : i = l.length := by
      have := of_decide_eq_false h
      omega
    subst hi
    rw [hfull] at hrs
    obtain ⟨B, c', rfl, _, hrow⟩ := hM.own.row
    ((conv => whnf); repeat (first | (apply load_at; (conv => lhs; whnf); (with_reducible assumption); rfl; (conv => whnf)) | (apply load_at; (conv => lhs; rw [add_plain, add_plain]); (with_reducible assumption); rfl; (conv => whnf)) | (apply loads_at; (conv => lhs; whnf); (with_reducible assumption); rfl; (conv => whnf)) | (refine ⟨⟨by omega, by omega⟩, ?_⟩; (conv => whnf))))
    exact ⟨⟨ps, B, c', rfl, hrow, fun a ha => hE_t.none (hM.fresh a.block (by rw [ha]; rfl)), fun p hp => ⟨(hP.ok p hp).mono hP.base, fun a ha => hE_t.none (hP.new p hp a ha)⟩, hrs⟩, hE_t.trans hM.ext⟩
end Go.Proofs.YtmpiggcooboenaaDoor.Al

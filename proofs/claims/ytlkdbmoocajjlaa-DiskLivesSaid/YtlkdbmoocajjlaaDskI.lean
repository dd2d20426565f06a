/- The reference's disks: Write, over what is known of memory (printed by mkrwrite.py). -/
import Derived.Test.YtlkdbmoocajjlaaDskH
namespace Go.Proofs.Ytlkdbmoocajjlaa.Al
open Go Go.Al Go.Proofs Go.RowKit
set_option maxHeartbeats 8000000
set_option maxRecDepth 100000
set_option linter.unusedVariables false
set_option linter.unusedSimpArgs false
def rwriteE (r : RS) (i : Int) (l : List UInt8) : Int := if r.down = true then 5 else if ¬ (0 ≤ i ∧ i < (r.L.length : Int)) ∨ l.length ≠ 256 then 1 else if r.armed = true ∧ r.arm = 0 then 5 else 0
def rwriteO (r : RS) (o : OD) (i : Int) (l : List UInt8) : RS :=
  { r with L := r.L.set i.toNat ⟨o.s, l, if o.t = 0 then r.turn + 1 else o.t⟩, turn := if o.t = 0 then r.turn + 1 else r.turn, done := r.done + 1, arm := if r.armed = true then r.arm - 1 else r.arm }
def rwriteS (r : RS) (i : Int) (l : List UInt8) : RS :=
  if r.down = true ∨ ¬ (0 ≤ i ∧ i < (r.L.length : Int)) ∨ l.length ≠ 256 then r else if r.armed = true ∧ r.arm = 0 then { r with down := true } else
  match r.L[i.toNat]? with | some o => rwriteO r o i l | none => r
theorem rwrite_wf {r : RS} (h : RWf r) {o : OD} {i : Int} (l : List UInt8) (ho : o ∈ r.L) (hd : r.done < 1000000000) (ha : ¬ (r.armed = true ∧ r.arm = 0)) : RWf (rwriteO r o i l) := by
  have h1 := h.turn
  have h2 := h.arm
  have h3 := h.ts o ho
  refine ⟨by show 3 ≤ (r.L.set _ _).length ∧ (r.L.set _ _).length ≤ 65536; rw [List.length_set]; exact h.len, (?_ : 0 ≤ (if o.t = 0 then r.turn + 1 else r.turn) ∧ (if o.t = 0 then r.turn + 1 else r.turn) ≤ r.done + 1), (by omega : r.done + 1 ≤ 1000000000), (?_ : 0 ≤ (if r.armed = true then r.arm - 1 else r.arm) ∧ (if r.armed = true then r.arm - 1 else r.arm) ≤ 9223372036854775807), fun x hx => (?_ : 0 ≤ x.t ∧ x.t ≤ (if o.t = 0 then r.turn + 1 else r.turn))⟩
  · split <;> omega
  · split
    · next e => have : r.arm ≠ 0 := fun e2 => ha ⟨e, e2⟩
                omega
    · omega
  · rcases List.mem_or_eq_of_mem_set hx with hx | rfl
    · have := h.ts x hx
      split <;> omega
    · dsimp only
      split <;> omega
theorem rwrite {D F R : Heap} {b : Nat} {r : RS} (hE : Ext D F) (hD : Rk D b r) (hR : Ext R F) (hA : Apart D R) (l : List UInt8) (A : Option Addr) (c : Nat) (hr : RowAt R A (bytesOf l)) (hl : l.length ≤ 900000) (i : Int) (hw : r.done < 1000000000) :
    FnK Try.prog 35 #[.pointer (some ⟨b, 0, none⟩), .int .i64 i, .slice A l.length c] F (fun v F' => v = .int .i64 (rwriteE r i l) ∧ ∃ D', Moves D F D' F' ∧ Rk D' b (rwriteS r i l)) := by
  obtain ⟨hwf, q, os, G, hP⟩ := hD
  have hb := hE _ _ hP.cell
  have hlen : r.L.length = os.length := by rw [hP.L, List.length_map]
  have hre : rwriteE r i l = if r.down = true then 5 else if ¬ (0 ≤ i ∧ i < (os.length : Int)) ∨ l.length ≠ 256 then 1 else if r.armed = true ∧ r.arm = 0 then 5 else 0 := by unfold rwriteE; rw [hlen]
  have hrs : rwriteS r i l = if r.down = true ∨ ¬ (0 ≤ i ∧ i < (os.length : Int)) ∨ l.length ≠ 256 then r else if r.armed = true ∧ r.arm = 0 then { r with down := true } else
    match r.L[i.toNat]? with | some o => rwriteO r o i l | none => r := by unfold rwriteS; rw [hlen]
  generalize rwriteE r i l = we at hre ⊢
  generalize rwriteS r i l = ws at hrs ⊢
  have same : (r.down = true ∨ ¬ (0 ≤ i ∧ i < (os.length : Int)) ∨ l.length ≠ 256) → ∃ D', Moves D F D' F ∧ Rk D' b ws := fun h => ⟨D, Moves.refl hE, by rw [hrs, if_pos h]; exact ⟨hwf, q, os, G, hP⟩⟩
  (refine fn_walk tab_ok Try.func35 rfl rfl rfl rfl ?_; (conv => whnf))
  ((conv => whnf); repeat (first | (apply load_at; (conv => lhs; whnf); (with_reducible assumption); rfl; (conv => whnf)) | (apply load_at; (conv => lhs; rw [add_plain, add_plain]); (with_reducible assumption); rfl; (conv => whnf)) | (apply loads_at; (conv => lhs; whnf); (with_reducible assumption); rfl; (conv => whnf)) | (refine ⟨⟨by omega, by omega⟩, ?_⟩; (conv => whnf))))
  refine cond_split (fun h => ?_) (fun h => ?_)
  · have hd : r.down = true := h
    rw [if_pos hd] at hre
    ((conv => whnf); repeat (first | (apply load_at; (conv => lhs; whnf); (with_reducible assumption); rfl; (conv => whnf)) | (apply load_at; (conv => lhs; rw [add_plain, add_plain]); (with_reducible assumption); rfl; (conv => whnf)) | (apply loads_at; (conv => lhs; whnf); (with_reducible assumption); rfl; (conv => whnf)) | (refine ⟨⟨by omega, by omega⟩, ?_⟩; (conv => whnf))))
    exact ⟨by rw [hre]; rfl, same (.inl hd)⟩
  have hd : r.down = false := h
  have hdn : ¬ r.down = true := by rw [hd]; decide
  rw [if_neg hdn] at hre
  ((conv => whnf); repeat (first | (apply load_at; (conv => lhs; whnf); (with_reducible assumption); rfl; (conv => whnf)) | (apply load_at; (conv => lhs; rw [add_plain, add_plain]); (with_reducible assumption); rfl; (conv => whnf)) | (apply loads_at; (conv => lhs; whnf); (with_reducible assumption); rfl; (conv => whnf)) | (refine ⟨⟨by omega, by omega⟩, ?_⟩; (conv => whnf))))
  refine cond_split (fun h => ?_) (fun h => ?_)
  case refine_2 =>
    have h : (!decide (i < 0)) = false := h
    have h0 : i < 0 := by simpa using h
    have hi : ¬ (0 ≤ i ∧ i < (os.length : Int)) := by omega
    rw [if_pos (.inl hi)] at hre
    ((conv => whnf); repeat (first | (apply load_at; (conv => lhs; whnf); (with_reducible assumption); rfl; (conv => whnf)) | (apply load_at; (conv => lhs; rw [add_plain, add_plain]); (with_reducible assumption); rfl; (conv => whnf)) | (apply loads_at; (conv => lhs; whnf); (with_reducible assumption); rfl; (conv => whnf)) | (refine ⟨⟨by omega, by omega⟩, ?_⟩; (conv => whnf))))
    exact ⟨by rw [hre]; rfl, same (.inr (.inl hi))⟩
  have h : (!decide (i < 0)) = true := h
  have h0 : ¬ i < 0 := by simpa using h
  ((conv => whnf); repeat (first | (apply load_at; (conv => lhs; whnf); (with_reducible assumption); rfl; (conv => whnf)) | (apply load_at; (conv => lhs; rw [add_plain, add_plain]); (with_reducible assumption); rfl; (conv => whnf)) | (apply loads_at; (conv => lhs; whnf); (with_reducible assumption); rfl; (conv => whnf)) | (refine ⟨⟨by omega, by omega⟩, ?_⟩; (conv => whnf))))
  refine cond_split (fun h => ?_) (fun h => ?_)
  case refine_2 =>
    have h : (!decide (i ≥ (os.length : Int))) = false := h
    have hi : ¬ (0 ≤ i ∧ i < (os.length : Int)) := by have : i ≥ (os.length : Int) := by simpa using h
                                                      omega
    rw [if_pos (.inl hi)] at hre
    ((conv => whnf); repeat (first | (apply load_at; (conv => lhs; whnf); (with_reducible assumption); rfl; (conv => whnf)) | (apply load_at; (conv => lhs; rw [add_plain, add_plain]); (with_reducible assumption); rfl; (conv => whnf)) | (apply loads_at; (conv => lhs; whnf); (with_reducible assumption); rfl; (conv => whnf)) | (refine ⟨⟨by omega, by omega⟩, ?_⟩; (conv => whnf))))
    exact ⟨by rw [hre]; rfl, same (.inr (.inl hi))⟩
  have h : (!decide (i ≥ (os.length : Int))) = true := h
  have hi : 0 ≤ i ∧ i < (os.length : Int) := by have : ¬ i ≥ (os.length : Int) := by simpa using h
                                                omega
  ((conv => whnf); repeat (first | (apply load_at; (conv => lhs; whnf); (with_reducible assumption); rfl; (conv => whnf)) | (apply load_at; (conv => lhs; rw [add_plain, add_plain]); (with_reducible assumption); rfl; (conv => whnf)) | (apply loads_at; (conv => lhs; whnf); (with_reducible assumption); rfl; (conv => whnf)) | (refine ⟨⟨by omega, by omega⟩, ?_⟩; (conv => whnf))))
  refine cond_split (fun h => ?_) (fun h => ?_)
  · have h : ((l.length : Int) != 256) = true := h
    have hne : l.length ≠ 256 := fun e => by rw [e] at h; exact absurd h (by decide)
    rw [if_pos (.inr hne)] at hre
    ((conv => whnf); repeat (first | (apply load_at; (conv => lhs; whnf); (with_reducible assumption); rfl; (conv => whnf)) | (apply load_at; (conv => lhs; rw [add_plain, add_plain]); (with_reducible assumption); rfl; (conv => whnf)) | (apply loads_at; (conv => lhs; whnf); (with_reducible assumption); rfl; (conv => whnf)) | (refine ⟨⟨by omega, by omega⟩, ?_⟩; (conv => whnf))))
    exact ⟨by rw [hre]; rfl, same (.inr (.inr hne))⟩
  have h : ((l.length : Int) != 256) = false := h
  have hl256 : l.length = 256 := by have := bne_eq_false_iff_eq.1 h; omega
  rw [if_neg (by rintro (h1 | h1); exact h1 hi; exact h1 hl256)] at hre
  rw [if_neg (by rintro (h1 | h1 | h1); exact hdn h1; exact h1 hi; exact h1 hl256)] at hrs
  clear same
  have hq := hE _ _ hP.row
  obtain ⟨j, rfl⟩ : ∃ j : Nat, i = j := ⟨i.toNat, by omega⟩
  have hj : j < os.length := by omega
  obtain ⟨o, ho⟩ : ∃ o, os[j]? = some o := ⟨_, List.getElem?_eq_getElem hj⟩
  have hok := hP.ok o (List.mem_of_getElem? ho)
  have hLo : r.L[(j : Int).toNat]? = some (od o) := by rw [Int.toNat_natCast, hP.L, List.getElem?_map, ho]; rfl
  rw [hLo] at hrs
  have hmem : od o ∈ r.L := List.mem_of_getElem? hLo
  ((conv => whnf); repeat (first | (apply load_at; (conv => lhs; whnf); (with_reducible assumption); rfl; (conv => whnf)) | (apply load_at; (conv => lhs; rw [add_plain, add_plain]); (with_reducible assumption); rfl; (conv => whnf)) | (apply loads_at; (conv => lhs; whnf); (with_reducible assumption); rfl; (conv => whnf)) | (refine ⟨⟨by omega, by omega⟩, ?_⟩; (conv => whnf))))
  refine cond_split (fun har => ?_) (fun har => ?_)
  · have har : r.armed = true := har
    ((conv => whnf); repeat (first | (apply load_at; (conv => lhs; whnf); (with_reducible assumption); rfl; (conv => whnf)) | (apply load_at; (conv => lhs; rw [add_plain, add_plain]); (with_reducible assumption); rfl; (conv => whnf)) | (apply loads_at; (conv => lhs; whnf); (with_reducible assumption); rfl; (conv => whnf)) | (refine ⟨⟨by omega, by omega⟩, ?_⟩; (conv => whnf))))
    refine cond_split (fun h => ?_) (fun h => ?_)
    · have h : (r.arm == 0) = true := h
      have hz : r.arm = 0 := by simpa using h
      rw [if_pos ⟨har, hz⟩] at hre hrs
      ((conv => whnf); repeat (first | (apply load_at; (conv => lhs; whnf); (with_reducible assumption); rfl; (conv => whnf)) | (apply load_at; (conv => lhs; rw [add_plain, add_plain]); (with_reducible assumption); rfl; (conv => whnf)) | (apply loads_at; (conv => lhs; whnf); (with_reducible assumption); rfl; (conv => whnf)) | (refine ⟨⟨by omega, by omega⟩, ?_⟩; (conv => whnf))))
      refine store_step b 5 _ (rdC (.slice (some ⟨q, 0, none⟩) os.length os.length) r.turn r.done r.arm r.armed true) rfl hb rfl rfl (.inl (Nat.le_refl 0)) (one_bool _) ?_
      ((conv => whnf); repeat (first | (apply load_at; (conv => lhs; whnf); (with_reducible assumption); rfl; (conv => whnf)) | (apply load_at; (conv => lhs; rw [add_plain, add_plain]); (with_reducible assumption); rfl; (conv => whnf)) | (apply loads_at; (conv => lhs; whnf); (with_reducible assumption); rfl; (conv => whnf)) | (refine ⟨⟨by omega, by omega⟩, ?_⟩; (conv => whnf))))
      refine ⟨by rw [hre]; rfl, _, Moves.put hE (.inl (by rw [hP.cell]; simp)) _, ?_⟩
      rw [hrs]
      exact ⟨⟨hwf.len, hwf.turn, hwf.done, hwf.arm, hwf.ts⟩, q, os, G, hP.nums r.turn r.done r.arm r.armed true⟩
    · have h : (r.arm == 0) = false := h
      have hz : ¬ (r.armed = true ∧ r.arm = 0) := fun e => by rw [e.2] at h; exact absurd h (by decide)
      have hwf2 := rwrite_wf hwf (i := (j : Int)) l hmem hw hz
      rw [if_neg hz] at hre hrs
      ((conv => whnf); repeat (first | (apply load_at; (conv => lhs; whnf); (with_reducible assumption); rfl; (conv => whnf)) | (apply load_at; (conv => lhs; rw [add_plain, add_plain]); (with_reducible assumption); rfl; (conv => whnf)) | (apply loads_at; (conv => lhs; whnf); (with_reducible assumption); rfl; (conv => whnf)) | (refine ⟨⟨by omega, by omega⟩, ?_⟩; (conv => whnf))))
      refine cond_split (fun h2 => ?_) (fun h2 => ?_)
      case refine_2 => exact absurd (har.symm.trans h2) (by decide)
      refine short [0, 1, 2] [.pointer (some ⟨b, 0, none⟩), .int .i64 (j : Int), .slice A l.length c] rfl fun ρ => ?_
      ((conv => whnf); repeat (first | (apply load_at; (conv => lhs; whnf); (with_reducible assumption); rfl; (conv => whnf)) | (apply load_at; (conv => lhs; rw [add_plain, add_plain]); (with_reducible assumption); rfl; (conv => whnf)) | (apply loads_at; (conv => lhs; whnf); (with_reducible assumption); rfl; (conv => whnf)) | (refine ⟨⟨by omega, by omega⟩, ?_⟩; (conv => whnf))))
      obtain ⟨am, ham⟩ : ∃ am, am = if r.armed = true then r.arm - 1 else r.arm := ⟨_, rfl⟩
      have haw : IntKind.i64.wrap (r.arm - 1) = am := by rw [ham, if_pos har]; have := hwf.arm; exact wrap_eq (by omega) (by omega)
      refine store_step b 3 _ (rdC (.slice (some ⟨q, 0, none⟩) os.length os.length) r.turn r.done am r.armed r.down) rfl hb ((rfl : _ = rdC (.slice (some ⟨q, 0, none⟩) os.length os.length) r.turn r.done (IntKind.i64.wrap (r.arm - 1)) r.armed r.down).trans (congrArg (fun z => rdC (.slice (some ⟨q, 0, none⟩) os.length os.length) r.turn r.done z r.armed r.down) haw)) rfl (.inl (Nat.le_refl 0)) (one_int _ _) ?_
      have M1 := Moves.put hE (.inl (by rw [hP.cell]; simp)) (rdO (.slice (some ⟨q, 0, none⟩) os.length os.length) r.turn r.done am r.armed r.down)
      have P1 := hP.nums r.turn r.done am r.armed r.down
      have hb1 := Heap.put_same F b (rdO (.slice (some ⟨q, 0, none⟩) os.length os.length) r.turn r.done am r.armed r.down)
      generalize F.put b _ = F1 at M1 hb1 ⊢
      generalize D.put b _ = D1 at M1 P1
      ((conv => whnf); repeat (first | (apply load_at; (conv => lhs; whnf); (with_reducible assumption); rfl; (conv => whnf)) | (apply load_at; (conv => lhs; rw [add_plain, add_plain]); (with_reducible assumption); rfl; (conv => whnf)) | (apply loads_at; (conv => lhs; whnf); (with_reducible assumption); rfl; (conv => whnf)) | (refine ⟨⟨by omega, by omega⟩, ?_⟩; (conv => whnf))))
      have hdw : IntKind.i64.wrap (r.done + 1) = r.done + 1 := wrap_eq (by have := hwf.turn; omega) (by omega)
      refine store_step b 2 _ (rdC (.slice (some ⟨q, 0, none⟩) os.length os.length) r.turn (r.done + 1) am r.armed r.down) rfl hb1 ((rfl : _ = rdC (.slice (some ⟨q, 0, none⟩) os.length os.length) r.turn (IntKind.i64.wrap (r.done + 1)) am r.armed r.down).trans (congrArg (fun z => rdC (.slice (some ⟨q, 0, none⟩) os.length os.length) r.turn z am r.armed r.down) hdw)) rfl (.inl (Nat.le_refl 0)) (one_int _ _) ?_
      have M2 := M1.trans (Moves.put M1.inn (.inl (by rw [P1.cell]; simp)) (rdO (.slice (some ⟨q, 0, none⟩) os.length os.length) r.turn (r.done + 1) am r.armed r.down))
      have P2 := P1.nums r.turn (r.done + 1) am r.armed r.down
      have hb2 := Heap.put_same F1 b (rdO (.slice (some ⟨q, 0, none⟩) os.length os.length) r.turn (r.done + 1) am r.armed r.down)
      have hq2 := M2.inn _ _ P2.row
      generalize F1.put b _ = F2 at M2 hb2 hq2 ⊢
      generalize D1.put b _ = D2 at M2 P2
      ((conv => whnf); repeat (first | (apply load_at; (conv => lhs; whnf); (with_reducible assumption); rfl; (conv => whnf)) | (apply load_at; (conv => lhs; rw [add_plain, add_plain]); (with_reducible assumption); rfl; (conv => whnf)) | (apply loads_at; (conv => lhs; whnf); (with_reducible assumption); rfl; (conv => whnf)) | (refine ⟨⟨by omega, by omega⟩, ?_⟩; (conv => whnf))))
      refine load_at (ad3 q j 2) hq2 (os_get ho rfl) ?_
      ((conv => whnf); repeat (first | (apply load_at; (conv => lhs; whnf); (with_reducible assumption); rfl; (conv => whnf)) | (apply load_at; (conv => lhs; rw [add_plain, add_plain]); (with_reducible assumption); rfl; (conv => whnf)) | (apply loads_at; (conv => lhs; whnf); (with_reducible assumption); rfl; (conv => whnf)) | (refine ⟨⟨by omega, by omega⟩, ?_⟩; (conv => whnf))))
      refine cond_split (fun h => ?_) (fun h => ?_)
      · have h : (o.t == 0) = true := h
        have ht : o.t = 0 := by simpa using h
        refine short [0, 1, 2] [.pointer (some ⟨b, 0, none⟩), .int .i64 (j : Int), .slice A l.length c] rfl fun ρ => ?_
        have htw : IntKind.i64.wrap (r.turn + 1) = r.turn + 1 := wrap_eq (by have := hwf.turn; omega) (by have := hwf.turn; omega)
        ((conv => whnf); repeat (first | (apply load_at; (conv => lhs; whnf); (with_reducible assumption); rfl; (conv => whnf)) | (apply load_at; (conv => lhs; rw [add_plain, add_plain]); (with_reducible assumption); rfl; (conv => whnf)) | (apply loads_at; (conv => lhs; whnf); (with_reducible assumption); rfl; (conv => whnf)) | (refine ⟨⟨by omega, by omega⟩, ?_⟩; (conv => whnf))))
        refine store_step b 1 _ (rdC (.slice (some ⟨q, 0, none⟩) os.length os.length) (r.turn + 1) (r.done + 1) am r.armed r.down) rfl hb2 ((rfl : _ = rdC (.slice (some ⟨q, 0, none⟩) os.length os.length) (IntKind.i64.wrap (r.turn + 1)) (r.done + 1) am r.armed r.down).trans (congrArg (fun z => rdC (.slice (some ⟨q, 0, none⟩) os.length os.length) z (r.done + 1) am r.armed r.down) htw)) rfl (.inl (Nat.le_refl 0)) (one_int _ _) ?_
        have M3 := M2.trans (Moves.put M2.inn (.inl (by rw [P2.cell]; simp)) (rdO (.slice (some ⟨q, 0, none⟩) os.length os.length) (r.turn + 1) (r.done + 1) am r.armed r.down))
        have P3 := P2.nums (r.turn + 1) (r.done + 1) am r.armed r.down
        have hb3 := Heap.put_same F2 b (rdO (.slice (some ⟨q, 0, none⟩) os.length os.length) (r.turn + 1) (r.done + 1) am r.armed r.down)
        have hq3 := M3.inn _ _ P3.row
        generalize F2.put b _ = F3 at M3 hb3 hq3 ⊢
        generalize D2.put b _ = D3 at M3 P3
        refine short [0, 1, 2] [.pointer (some ⟨b, 0, none⟩), .int .i64 (j : Int), .slice A l.length c] rfl fun ρ => ?_
        (conv => whnf)
        refine draw_walk tab_ok (by kernel_rfl) [0, 1, 2, 3, 4, 5, 6, 7, 8, 9, 10, 11] (by kernel_rfl) ?_
        ((conv => whnf); repeat (first | (apply load_at; (conv => lhs; whnf); (with_reducible assumption); rfl; (conv => whnf)) | (apply load_at; (conv => lhs; rw [add_plain, add_plain]); (with_reducible assumption); rfl; (conv => whnf)) | (apply loads_at; (conv => lhs; whnf); (with_reducible assumption); rfl; (conv => whnf)) | (refine ⟨⟨by omega, by omega⟩, ?_⟩; (conv => whnf))))
        refine store_step q (j * 3 + 2) _ (rowS orC (os.set j { o with t := r.turn + 1 })).toArray (ad3 q j 2) hq3 (os_put ho (by decide) rfl) (os_in hj (by decide)) (.inl (Nat.le_refl 0)) (one_int _ _) ?_
        have M4 := M3.trans (Moves.put M3.inn (.inl (by rw [P3.row]; simp)) (osO (os.set j { o with t := r.turn + 1 })))
        have P4 := P3.set j { o with t := r.turn + 1 } ⟨hok.s, hok.l, hok.sc, hok.lc, hok.sn, hok.ln⟩
        generalize F3.put q _ = F4 at M4 ⊢
        generalize D3.put q _ = D4 at M4 P4
        have hn4 : (os.set j { o with t := r.turn + 1 }).length = os.length := List.length_set
        have ho4 : (os.set j { o with t := r.turn + 1 })[j]? = some { o with t := r.turn + 1 } := by rw [List.getElem?_set_self hj]
        have ok4 : OrOk G { o with t := r.turn + 1 } := ⟨hok.s, hok.l, hok.sc, hok.lc, hok.sn, hok.ln⟩
        have hj4 : j < (os.set j { o with t := r.turn + 1 }).length := by rw [hn4]; exact hj
        have hLe : ∀ l (A5 : Option Addr) (c5 : Nat), ({ L := (r.L.set j (od { o with t := r.turn + 1 })).set j (od { o with t := r.turn + 1, l := l, lA := A5, lc := c5 }), turn := r.turn + 1, done := r.done + 1, arm := am, armed := r.armed, down := r.down } : RS) = rwriteO r (od o) (j : Int) l := fun l A5 c5 => by
          unfold rwriteO
          rw [List.set_set, if_pos (show (od o).t = 0 from ht), if_pos (show (od o).t = 0 from ht), Int.toNat_natCast, ham]
          rfl
        replace P4 : RkP _ b q (os.set j { o with t := r.turn + 1 }) G ⟨r.L.set j (od { o with t := r.turn + 1 }), r.turn + 1, r.done + 1, am, r.armed, r.down⟩ := P4
        have M5 := M4
        have hb5 : F4 b = some (rdO (.slice (some ⟨q, 0, none⟩) os.length os.length) (r.turn + 1) (r.done + 1) am r.armed r.down) := by have := M4.inn _ _ P4.cell; rw [hn4] at this; exact this
        have hq5 := M4.inn _ _ P4.row
        ((conv => whnf); repeat (first | (apply load_at; (conv => lhs; whnf); (with_reducible assumption); rfl; (conv => whnf)) | (apply load_at; (conv => lhs; rw [add_plain, add_plain]); (with_reducible assumption); rfl; (conv => whnf)) | (apply loads_at; (conv => lhs; whnf); (with_reducible assumption); rfl; (conv => whnf)) | (refine ⟨⟨by omega, by omega⟩, ?_⟩; (conv => whnf))))
        refine draw_walk tab_ok (by kernel_rfl) [0, 1, 2, 3, 4, 5, 6, 7, 8, 9] (by kernel_rfl) ?_
        ((conv => whnf); repeat (first | (apply load_at; (conv => lhs; whnf); (with_reducible assumption); rfl; (conv => whnf)) | (apply load_at; (conv => lhs; rw [add_plain, add_plain]); (with_reducible assumption); rfl; (conv => whnf)) | (apply loads_at; (conv => lhs; whnf); (with_reducible assumption); rfl; (conv => whnf)) | (refine ⟨⟨by omega, by omega⟩, ?_⟩; (conv => whnf))))
        refine append_mine tab_ok rfl rfl rfl rfl rfl ⟨_, rfl, fun k h => by cases h⟩ ⟨_, rfl, rfl⟩ (by decide) (Mine.nil F4 F4 _ _ (Ext.refl _)) (m := l.length) (ys := bytesOf l) (y := .slice A l.length c) ⟨by simp [bytesOf], .inl ⟨_, _, rfl, hr.mono (M4.keep hR hA)⟩⟩ (hone_bytes l) (by show 2 * (0 + l.length) * 1 ≤ _; omega) fun s' F5 h1 _ => ?_
        obtain ⟨A5, c5, rfl, hc5, hr5⟩ := h1.own.row
        have hnew : ∀ a, A5 = some a → F4 a.block = none := fun a ha => h1.fresh _ (by rw [ha]; rfl)
        replace hr5 : RowAt F5 A5 (bytesOf l) := hr5
        have E5 := h1.ext
        have hll : 0 + l.length = l.length := Nat.zero_add _
        (conv => whnf)
        refine ⟨E5, ?_⟩
        ((conv => whnf); repeat (first | (apply load_at; (conv => lhs; whnf); (with_reducible assumption); rfl; (conv => whnf)) | (apply load_at; (conv => lhs; rw [add_plain, add_plain]); (with_reducible assumption); rfl; (conv => whnf)) | (apply loads_at; (conv => lhs; whnf); (with_reducible assumption); rfl; (conv => whnf)) | (refine ⟨⟨by omega, by omega⟩, ?_⟩; (conv => whnf))))
        refine store_step q (j * 3 + 1) _ (rowS orC ((os.set j { o with t := r.turn + 1 }).set j { o with t := r.turn + 1, l := l, lA := A5, lc := c5 })).toArray (ad3 q j 1) (E5 _ _ hq5) (os_put ho4 (by decide) (by show _ = [Value.slice ({ o with t := r.turn + 1 } : OR).sA ({ o with t := r.turn + 1 } : OR).s.length ({ o with t := r.turn + 1 } : OR).sc, .slice A5 (0 + l.length) c5, .int .i64 ({ o with t := r.turn + 1 } : OR).t]; rw [hll]; rfl)) (os_in hj4 (by decide)) (.inl (Nat.le_refl 0)) (one_slice _ _ _) ?_
        obtain ⟨M6, P6⟩ := P4.setL M4.inn E5 ho4 (o' := { o with t := r.turn + 1, l := l, lA := A5, lc := c5 }) ⟨ok4.s.mono (gain_ext (P4.base.trans M4.inn)), rowAt_gain hr5 hnew, ok4.sc, (by omega : l.length ≤ c5), ok4.sn, .inr hl256⟩
        replace M6 := M4.trans M6
        ((conv => whnf); repeat (first | (apply load_at; (conv => lhs; whnf); (with_reducible assumption); rfl; (conv => whnf)) | (apply load_at; (conv => lhs; rw [add_plain, add_plain]); (with_reducible assumption); rfl; (conv => whnf)) | (apply loads_at; (conv => lhs; whnf); (with_reducible assumption); rfl; (conv => whnf)) | (refine ⟨⟨by omega, by omega⟩, ?_⟩; (conv => whnf))))
        refine ⟨by rw [hre]; rfl, _, M6, ?_⟩
        rw [hrs]
        refine ⟨hwf2, q, (os.set j { o with t := r.turn + 1 }).set j { o with t := r.turn + 1, l := l, lA := A5, lc := c5 }, gain G F4 F5, ?_⟩
        have e4 : ({ L := (r.L.set j (od { o with t := r.turn + 1 })).set j (od { o with t := r.turn + 1, l := l, lA := A5, lc := c5 }), turn := (r.turn + 1), done := r.done + 1, arm := am, armed := r.armed, down := r.down } : RS) = rwriteO r (od o) (j : Int) l := by
          exact hLe _ _ _
        show RkP _ _ _ _ _ (rwriteO r (od o) (j : Int) l)
        rw [← e4]
        exact P6
      · have h : (o.t == 0) = false := h
        have ht : ¬ o.t = 0 := by simpa using h
        have M4 := M2
        have P4 := P2
        have hn4 : os.length = os.length := rfl
        have ho4 := ho
        have ok4 := hok
        have hj4 := hj
        have M5 := M4
        have hb5 : F2 b = some (rdO (.slice (some ⟨q, 0, none⟩) os.length os.length) r.turn (r.done + 1) am r.armed r.down) := by have := M4.inn _ _ P4.cell; rw [hn4] at this; exact this
        have hq5 := M4.inn _ _ P4.row
        ((conv => whnf); repeat (first | (apply load_at; (conv => lhs; whnf); (with_reducible assumption); rfl; (conv => whnf)) | (apply load_at; (conv => lhs; rw [add_plain, add_plain]); (with_reducible assumption); rfl; (conv => whnf)) | (apply loads_at; (conv => lhs; whnf); (with_reducible assumption); rfl; (conv => whnf)) | (refine ⟨⟨by omega, by omega⟩, ?_⟩; (conv => whnf))))
        refine draw_walk tab_ok (by kernel_rfl) [0, 1, 2, 3, 4, 5, 6, 7, 8, 9] (by kernel_rfl) ?_
        ((conv => whnf); repeat (first | (apply load_at; (conv => lhs; whnf); (with_reducible assumption); rfl; (conv => whnf)) | (apply load_at; (conv => lhs; rw [add_plain, add_plain]); (with_reducible assumption); rfl; (conv => whnf)) | (apply loads_at; (conv => lhs; whnf); (with_reducible assumption); rfl; (conv => whnf)) | (refine ⟨⟨by omega, by omega⟩, ?_⟩; (conv => whnf))))
        refine append_mine tab_ok rfl rfl rfl rfl rfl ⟨_, rfl, fun k h => by cases h⟩ ⟨_, rfl, rfl⟩ (by decide) (Mine.nil F2 F2 _ _ (Ext.refl _)) (m := l.length) (ys := bytesOf l) (y := .slice A l.length c) ⟨by simp [bytesOf], .inl ⟨_, _, rfl, hr.mono (M4.keep hR hA)⟩⟩ (hone_bytes l) (by show 2 * (0 + l.length) * 1 ≤ _; omega) fun s' F5 h1 _ => ?_
        obtain ⟨A5, c5, rfl, hc5, hr5⟩ := h1.own.row
        have hnew : ∀ a, A5 = some a → F2 a.block = none := fun a ha => h1.fresh _ (by rw [ha]; rfl)
        replace hr5 : RowAt F5 A5 (bytesOf l) := hr5
        have E5 := h1.ext
        have hll : 0 + l.length = l.length := Nat.zero_add _
        (conv => whnf)
        refine ⟨E5, ?_⟩
        ((conv => whnf); repeat (first | (apply load_at; (conv => lhs; whnf); (with_reducible assumption); rfl; (conv => whnf)) | (apply load_at; (conv => lhs; rw [add_plain, add_plain]); (with_reducible assumption); rfl; (conv => whnf)) | (apply loads_at; (conv => lhs; whnf); (with_reducible assumption); rfl; (conv => whnf)) | (refine ⟨⟨by omega, by omega⟩, ?_⟩; (conv => whnf))))
        refine store_step q (j * 3 + 1) _ (rowS orC (os.set j { o with l := l, lA := A5, lc := c5 })).toArray (ad3 q j 1) (E5 _ _ hq5) (os_put ho4 (by decide) (by show _ = [Value.slice o.sA o.s.length o.sc, .slice A5 (0 + l.length) c5, .int .i64 o.t]; rw [hll]; rfl)) (os_in hj4 (by decide)) (.inl (Nat.le_refl 0)) (one_slice _ _ _) ?_
        obtain ⟨M6, P6⟩ := P4.setL M4.inn E5 ho4 (o' := { o with l := l, lA := A5, lc := c5 }) ⟨ok4.s.mono (gain_ext (P4.base.trans M4.inn)), rowAt_gain hr5 hnew, ok4.sc, (by omega : l.length ≤ c5), ok4.sn, .inr hl256⟩
        replace M6 := M4.trans M6
        ((conv => whnf); repeat (first | (apply load_at; (conv => lhs; whnf); (with_reducible assumption); rfl; (conv => whnf)) | (apply load_at; (conv => lhs; rw [add_plain, add_plain]); (with_reducible assumption); rfl; (conv => whnf)) | (apply loads_at; (conv => lhs; whnf); (with_reducible assumption); rfl; (conv => whnf)) | (refine ⟨⟨by omega, by omega⟩, ?_⟩; (conv => whnf))))
        refine ⟨by rw [hre]; rfl, _, M6, ?_⟩
        rw [hrs]
        refine ⟨hwf2, q, os.set j { o with l := l, lA := A5, lc := c5 }, gain G F2 F5, ?_⟩
        have e4 : ({ L := r.L.set j (od { o with l := l, lA := A5, lc := c5 }), turn := r.turn, done := r.done + 1, arm := am, armed := r.armed, down := r.down } : RS) = rwriteO r (od o) (j : Int) l := by
          unfold rwriteO
          rw [if_neg (show ¬ (od o).t = 0 from ht), if_neg (show ¬ (od o).t = 0 from ht), Int.toNat_natCast, ham]
          rfl
        show RkP _ _ _ _ _ (rwriteO r (od o) (j : Int) l)
        rw [← e4]
        exact P6
  · have har : r.armed = false := har
    have hz : ¬ (r.armed = true ∧ r.arm = 0) := fun e => by rw [har] at e; exact absurd e.1 (by decide)
    have hwf2 := rwrite_wf hwf (i := (j : Int)) l hmem hw hz
    rw [if_neg hz] at hre hrs
    ((conv => whnf); repeat (first | (apply load_at; (conv => lhs; whnf); (with_reducible assumption); rfl; (conv => whnf)) | (apply load_at; (conv => lhs; rw [add_plain, add_plain]); (with_reducible assumption); rfl; (conv => whnf)) | (apply loads_at; (conv => lhs; whnf); (with_reducible assumption); rfl; (conv => whnf)) | (refine ⟨⟨by omega, by omega⟩, ?_⟩; (conv => whnf))))
    refine cond_split (fun h2 => ?_) (fun h2 => ?_)
    case refine_1 => exact absurd (har.symm.trans h2) (by decide)
    refine short [0, 1, 2] [.pointer (some ⟨b, 0, none⟩), .int .i64 (j : Int), .slice A l.length c] rfl fun ρ => ?_
    obtain ⟨am, ham⟩ : ∃ am, am = if r.armed = true then r.arm - 1 else r.arm := ⟨_, rfl⟩
    have haw : r.arm = am := by rw [ham, if_neg (by rw [har]; decide)]
    have M1 := Moves.refl hE
    have P1 : RkP D b q os G { r with arm := am } := by rw [← haw]; exact hP
    have hb1 : F b = some (rdO (.slice (some ⟨q, 0, none⟩) os.length os.length) r.turn r.done am r.armed r.down) := by rw [← haw]; exact hb
    ((conv => whnf); repeat (first | (apply load_at; (conv => lhs; whnf); (with_reducible assumption); rfl; (conv => whnf)) | (apply load_at; (conv => lhs; rw [add_plain, add_plain]); (with_reducible assumption); rfl; (conv => whnf)) | (apply loads_at; (conv => lhs; whnf); (with_reducible assumption); rfl; (conv => whnf)) | (refine ⟨⟨by omega, by omega⟩, ?_⟩; (conv => whnf))))
    have hdw : IntKind.i64.wrap (r.done + 1) = r.done + 1 := wrap_eq (by have := hwf.turn; omega) (by omega)
    refine store_step b 2 _ (rdC (.slice (some ⟨q, 0, none⟩) os.length os.length) r.turn (r.done + 1) am r.armed r.down) rfl hb1 ((rfl : _ = rdC (.slice (some ⟨q, 0, none⟩) os.length os.length) r.turn (IntKind.i64.wrap (r.done + 1)) am r.armed r.down).trans (congrArg (fun z => rdC (.slice (some ⟨q, 0, none⟩) os.length os.length) r.turn z am r.armed r.down) hdw)) rfl (.inl (Nat.le_refl 0)) (one_int _ _) ?_
    have M2 := M1.trans (Moves.put M1.inn (.inl (by rw [P1.cell]; simp)) (rdO (.slice (some ⟨q, 0, none⟩) os.length os.length) r.turn (r.done + 1) am r.armed r.down))
    have P2 := P1.nums r.turn (r.done + 1) am r.armed r.down
    have hb2 := Heap.put_same F b (rdO (.slice (some ⟨q, 0, none⟩) os.length os.length) r.turn (r.done + 1) am r.armed r.down)
    have hq2 := M2.inn _ _ P2.row
    generalize F.put b _ = F2 at M2 hb2 hq2 ⊢
    generalize D.put b _ = D2 at M2 P2
    ((conv => whnf); repeat (first | (apply load_at; (conv => lhs; whnf); (with_reducible assumption); rfl; (conv => whnf)) | (apply load_at; (conv => lhs; rw [add_plain, add_plain]); (with_reducible assumption); rfl; (conv => whnf)) | (apply loads_at; (conv => lhs; whnf); (with_reducible assumption); rfl; (conv => whnf)) | (refine ⟨⟨by omega, by omega⟩, ?_⟩; (conv => whnf))))
    refine load_at (ad3 q j 2) hq2 (os_get ho rfl) ?_
    ((conv => whnf); repeat (first | (apply load_at; (conv => lhs; whnf); (with_reducible assumption); rfl; (conv => whnf)) | (apply load_at; (conv => lhs; rw [add_plain, add_plain]); (with_reducible assumption); rfl; (conv => whnf)) | (apply loads_at; (conv => lhs; whnf); (with_reducible assumption); rfl; (conv => whnf)) | (refine ⟨⟨by omega, by omega⟩, ?_⟩; (conv => whnf))))
    refine cond_split (fun h => ?_) (fun h => ?_)
    · have h : (o.t == 0) = true := h
      have ht : o.t = 0 := by simpa using h
      refine short [0, 1, 2] [.pointer (some ⟨b, 0, none⟩), .int .i64 (j : Int), .slice A l.length c] rfl fun ρ => ?_
      have htw : IntKind.i64.wrap (r.turn + 1) = r.turn + 1 := wrap_eq (by have := hwf.turn; omega) (by have := hwf.turn; omega)
      ((conv => whnf); repeat (first | (apply load_at; (conv => lhs; whnf); (with_reducible assumption); rfl; (conv => whnf)) | (apply load_at; (conv => lhs; rw [add_plain, add_plain]); (with_reducible assumption); rfl; (conv => whnf)) | (apply loads_at; (conv => lhs; whnf); (with_reducible assumption); rfl; (conv => whnf)) | (refine ⟨⟨by omega, by omega⟩, ?_⟩; (conv => whnf))))
      refine store_step b 1 _ (rdC (.slice (some ⟨q, 0, none⟩) os.length os.length) (r.turn + 1) (r.done + 1) am r.armed r.down) rfl hb2 ((rfl : _ = rdC (.slice (some ⟨q, 0, none⟩) os.length os.length) (IntKind.i64.wrap (r.turn + 1)) (r.done + 1) am r.armed r.down).trans (congrArg (fun z => rdC (.slice (some ⟨q, 0, none⟩) os.length os.length) z (r.done + 1) am r.armed r.down) htw)) rfl (.inl (Nat.le_refl 0)) (one_int _ _) ?_
      have M3 := M2.trans (Moves.put M2.inn (.inl (by rw [P2.cell]; simp)) (rdO (.slice (some ⟨q, 0, none⟩) os.length os.length) (r.turn + 1) (r.done + 1) am r.armed r.down))
      have P3 := P2.nums (r.turn + 1) (r.done + 1) am r.armed r.down
      have hb3 := Heap.put_same F2 b (rdO (.slice (some ⟨q, 0, none⟩) os.length os.length) (r.turn + 1) (r.done + 1) am r.armed r.down)
      have hq3 := M3.inn _ _ P3.row
      generalize F2.put b _ = F3 at M3 hb3 hq3 ⊢
      generalize D2.put b _ = D3 at M3 P3
      refine short [0, 1, 2] [.pointer (some ⟨b, 0, none⟩), .int .i64 (j : Int), .slice A l.length c] rfl fun ρ => ?_
      (conv => whnf)
      refine draw_walk tab_ok (by kernel_rfl) [0, 1, 2, 3, 4, 5, 6, 7, 8, 9, 10, 11] (by kernel_rfl) ?_
      ((conv => whnf); repeat (first | (apply load_at; (conv => lhs; whnf); (with_reducible assumption); rfl; (conv => whnf)) | (apply load_at; (conv => lhs; rw [add_plain, add_plain]); (with_reducible assumption); rfl; (conv => whnf)) | (apply loads_at; (conv => lhs; whnf); (with_reducible assumption); rfl; (conv => whnf)) | (refine ⟨⟨by omega, by omega⟩, ?_⟩; (conv => whnf))))
      refine store_step q (j * 3 + 2) _ (rowS orC (os.set j { o with t := r.turn + 1 })).toArray (ad3 q j 2) hq3 (os_put ho (by decide) rfl) (os_in hj (by decide)) (.inl (Nat.le_refl 0)) (one_int _ _) ?_
      have M4 := M3.trans (Moves.put M3.inn (.inl (by rw [P3.row]; simp)) (osO (os.set j { o with t := r.turn + 1 })))
      have P4 := P3.set j { o with t := r.turn + 1 } ⟨hok.s, hok.l, hok.sc, hok.lc, hok.sn, hok.ln⟩
      generalize F3.put q _ = F4 at M4 ⊢
      generalize D3.put q _ = D4 at M4 P4
      have hn4 : (os.set j { o with t := r.turn + 1 }).length = os.length := List.length_set
      have ho4 : (os.set j { o with t := r.turn + 1 })[j]? = some { o with t := r.turn + 1 } := by rw [List.getElem?_set_self hj]
      have ok4 : OrOk G { o with t := r.turn + 1 } := ⟨hok.s, hok.l, hok.sc, hok.lc, hok.sn, hok.ln⟩
      have hj4 : j < (os.set j { o with t := r.turn + 1 }).length := by rw [hn4]; exact hj
      have hLe : ∀ l (A5 : Option Addr) (c5 : Nat), ({ L := (r.L.set j (od { o with t := r.turn + 1 })).set j (od { o with t := r.turn + 1, l := l, lA := A5, lc := c5 }), turn := r.turn + 1, done := r.done + 1, arm := am, armed := r.armed, down := r.down } : RS) = rwriteO r (od o) (j : Int) l := fun l A5 c5 => by
        unfold rwriteO
        rw [List.set_set, if_pos (show (od o).t = 0 from ht), if_pos (show (od o).t = 0 from ht), Int.toNat_natCast, ham]
        rfl
      replace P4 : RkP _ b q (os.set j { o with t := r.turn + 1 }) G ⟨r.L.set j (od { o with t := r.turn + 1 }), r.turn + 1, r.done + 1, am, r.armed, r.down⟩ := P4
      have M5 := M4
      have hb5 : F4 b = some (rdO (.slice (some ⟨q, 0, none⟩) os.length os.length) (r.turn + 1) (r.done + 1) am r.armed r.down) := by have := M4.inn _ _ P4.cell; rw [hn4] at this; exact this
      have hq5 := M4.inn _ _ P4.row
      ((conv => whnf); repeat (first | (apply load_at; (conv => lhs; whnf); (with_reducible assumption); rfl; (conv => whnf)) | (apply load_at; (conv => lhs; rw [add_plain, add_plain]); (with_reducible assumption); rfl; (conv => whnf)) | (apply loads_at; (conv => lhs; whnf); (with_reducible assumption); rfl; (conv => whnf)) | (refine ⟨⟨by omega, by omega⟩, ?_⟩; (conv => whnf))))
      refine draw_walk tab_ok (by kernel_rfl) [0, 1, 2, 3, 4, 5, 6, 7, 8, 9] (by kernel_rfl) ?_
      ((conv => whnf); repeat (first | (apply load_at; (conv => lhs; whnf); (with_reducible assumption); rfl; (conv => whnf)) | (apply load_at; (conv => lhs; rw [add_plain, add_plain]); (with_reducible assumption); rfl; (conv => whnf)) | (apply loads_at; (conv => lhs; whnf); (with_reducible assumption); rfl; (conv => whnf)) | (refine ⟨⟨by omega, by omega⟩, ?_⟩; (conv => whnf))))
      refine append_mine tab_ok rfl rfl rfl rfl rfl ⟨_, rfl, fun k h => by cases h⟩ ⟨_, rfl, rfl⟩ (by decide) (Mine.nil F4 F4 _ _ (Ext.refl _)) (m := l.length) (ys := bytesOf l) (y := .slice A l.length c) ⟨by simp [bytesOf], .inl ⟨_, _, rfl, hr.mono (M4.keep hR hA)⟩⟩ (hone_bytes l) (by show 2 * (0 + l.length) * 1 ≤ _; omega) fun s' F5 h1 _ => ?_
      obtain ⟨A5, c5, rfl, hc5, hr5⟩ := h1.own.row
      have hnew : ∀ a, A5 = some a → F4 a.block = none := fun a ha => h1.fresh _ (by rw [ha]; rfl)
      replace hr5 : RowAt F5 A5 (bytesOf l) := hr5
      have E5 := h1.ext
      have hll : 0 + l.length = l.length := Nat.zero_add _
      (conv => whnf)
      refine ⟨E5, ?_⟩
      ((conv => whnf); repeat (first | (apply load_at; (conv => lhs; whnf); (with_reducible assumption); rfl; (conv => whnf)) | (apply load_at; (conv => lhs; rw [add_plain, add_plain]); (with_reducible assumption); rfl; (conv => whnf)) | (apply loads_at; (conv => lhs; whnf); (with_reducible assumption); rfl; (conv => whnf)) | (refine ⟨⟨by omega, by omega⟩, ?_⟩; (conv => whnf))))
      refine store_step q (j * 3 + 1) _ (rowS orC ((os.set j { o with t := r.turn + 1 }).set j { o with t := r.turn + 1, l := l, lA := A5, lc := c5 })).toArray (ad3 q j 1) (E5 _ _ hq5) (os_put ho4 (by decide) (by show _ = [Value.slice ({ o with t := r.turn + 1 } : OR).sA ({ o with t := r.turn + 1 } : OR).s.length ({ o with t := r.turn + 1 } : OR).sc, .slice A5 (0 + l.length) c5, .int .i64 ({ o with t := r.turn + 1 } : OR).t]; rw [hll]; rfl)) (os_in hj4 (by decide)) (.inl (Nat.le_refl 0)) (one_slice _ _ _) ?_
      obtain ⟨M6, P6⟩ := P4.setL M4.inn E5 ho4 (o' := { o with t := r.turn + 1, l := l, lA := A5, lc := c5 }) ⟨ok4.s.mono (gain_ext (P4.base.trans M4.inn)), rowAt_gain hr5 hnew, ok4.sc, (by omega : l.length ≤ c5), ok4.sn, .inr hl256⟩
      replace M6 := M4.trans M6
      ((conv => whnf); repeat (first | (apply load_at; (conv => lhs; whnf); (with_reducible assumption); rfl; (conv => whnf)) | (apply load_at; (conv => lhs; rw [add_plain, add_plain]); (with_reducible assumption); rfl; (conv => whnf)) | (apply loads_at; (conv => lhs; whnf); (with_reducible assumption); rfl; (conv => whnf)) | (refine ⟨⟨by omega, by omega⟩, ?_⟩; (conv => whnf))))
      refine ⟨by rw [hre]; rfl, _, M6, ?_⟩
      rw [hrs]
      refine ⟨hwf2, q, (os.set j { o with t := r.turn + 1 }).set j { o with t := r.turn + 1, l := l, lA := A5, lc := c5 }, gain G F4 F5, ?_⟩
      have e4 : ({ L := (r.L.set j (od { o with t := r.turn + 1 })).set j (od { o with t := r.turn + 1, l := l, lA := A5, lc := c5 }), turn := (r.turn + 1), done := r.done + 1, arm := am, armed := r.armed, down := r.down } : RS) = rwriteO r (od o) (j : Int) l := by
        exact hLe _ _ _
      show RkP _ _ _ _ _ (rwriteO r (od o) (j : Int) l)
      rw [← e4]
      exact P6
    · have h : (o.t == 0) = false := h
      have ht : ¬ o.t = 0 := by simpa using h
      have M4 := M2
      have P4 := P2
      have hn4 : os.length = os.length := rfl
      have ho4 := ho
      have ok4 := hok
      have hj4 := hj
      have M5 := M4
      have hb5 : F2 b = some (rdO (.slice (some ⟨q, 0, none⟩) os.length os.length) r.turn (r.done + 1) am r.armed r.down) := by have := M4.inn _ _ P4.cell; rw [hn4] at this; exact this
      have hq5 := M4.inn _ _ P4.row
      ((conv => whnf); repeat (first | (apply load_at; (conv => lhs; whnf); (with_reducible assumption); rfl; (conv => whnf)) | (apply load_at; (conv => lhs; rw [add_plain, add_plain]); (with_reducible assumption); rfl; (conv => whnf)) | (apply loads_at; (conv => lhs; whnf); (with_reducible assumption); rfl; (conv => whnf)) | (refine ⟨⟨by omega, by omega⟩, ?_⟩; (conv => whnf))))
      refine draw_walk tab_ok (by kernel_rfl) [0, 1, 2, 3, 4, 5, 6, 7, 8, 9] (by kernel_rfl) ?_
      ((conv => whnf); repeat (first | (apply load_at; (conv => lhs; whnf); (with_reducible assumption); rfl; (conv => whnf)) | (apply load_at; (conv => lhs; rw [add_plain, add_plain]); (with_reducible assumption); rfl; (conv => whnf)) | (apply loads_at; (conv => lhs; whnf); (with_reducible assumption); rfl; (conv => whnf)) | (refine ⟨⟨by omega, by omega⟩, ?_⟩; (conv => whnf))))
      refine append_mine tab_ok rfl rfl rfl rfl rfl ⟨_, rfl, fun k h => by cases h⟩ ⟨_, rfl, rfl⟩ (by decide) (Mine.nil F2 F2 _ _ (Ext.refl _)) (m := l.length) (ys := bytesOf l) (y := .slice A l.length c) ⟨by simp [bytesOf], .inl ⟨_, _, rfl, hr.mono (M4.keep hR hA)⟩⟩ (hone_bytes l) (by show 2 * (0 + l.length) * 1 ≤ _; omega) fun s' F5 h1 _ => ?_
      obtain ⟨A5, c5, rfl, hc5, hr5⟩ := h1.own.row
      have hnew : ∀ a, A5 = some a → F2 a.block = none := fun a ha => h1.fresh _ (by rw [ha]; rfl)
      replace hr5 : RowAt F5 A5 (bytesOf l) := hr5
      have E5 := h1.ext
      have hll : 0 + l.length = l.length := Nat.zero_add _
      (conv => whnf)
      refine ⟨E5, ?_⟩
      ((conv => whnf); repeat (first | (apply load_at; (conv => lhs; whnf); (with_reducible assumption); rfl; (conv => whnf)) | (apply load_at; (conv => lhs; rw [add_plain, add_plain]); (with_reducible assumption); rfl; (conv => whnf)) | (apply loads_at; (conv => lhs; whnf); (with_reducible assumption); rfl; (conv => whnf)) | (refine ⟨⟨by omega, by omega⟩, ?_⟩; (conv => whnf))))
      refine store_step q (j * 3 + 1) _ (rowS orC (os.set j { o with l := l, lA := A5, lc := c5 })).toArray (ad3 q j 1) (E5 _ _ hq5) (os_put ho4 (by decide) (by show _ = [Value.slice o.sA o.s.length o.sc, .slice A5 (0 + l.length) c5, .int .i64 o.t]; rw [hll]; rfl)) (os_in hj4 (by decide)) (.inl (Nat.le_refl 0)) (one_slice _ _ _) ?_
      obtain ⟨M6, P6⟩ := P4.setL M4.inn E5 ho4 (o' := { o with l := l, lA := A5, lc := c5 }) ⟨ok4.s.mono (gain_ext (P4.base.trans M4.inn)), rowAt_gain hr5 hnew, ok4.sc, (by omega : l.length ≤ c5), ok4.sn, .inr hl256⟩
      replace M6 := M4.trans M6
      ((conv => whnf); repeat (first | (apply load_at; (conv => lhs; whnf); (with_reducible assumption); rfl; (conv => whnf)) | (apply load_at; (conv => lhs; rw [add_plain, add_plain]); (with_reducible assumption); rfl; (conv => whnf)) | (apply loads_at; (conv => lhs; whnf); (with_reducible assumption); rfl; (conv => whnf)) | (refine ⟨⟨by omega, by omega⟩, ?_⟩; (conv => whnf))))
      refine ⟨by rw [hre]; rfl, _, M6, ?_⟩
      rw [hrs]
      refine ⟨hwf2, q, os.set j { o with l := l, lA := A5, lc := c5 }, gain G F2 F5, ?_⟩
      have e4 : ({ L := r.L.set j (od { o with l := l, lA := A5, lc := c5 }), turn := r.turn, done := r.done + 1, arm := am, armed := r.armed, down := r.down } : RS) = rwriteO r (od o) (j : Int) l := by
        unfold rwriteO
        rw [if_neg (show ¬ (od o).t = 0 from ht), if_neg (show ¬ (od o).t = 0 from ht), Int.toNat_natCast, ham]
        rfl
      show RkP _ _ _ _ _ (rwriteO r (od o) (j : Int) l)
      rw [← e4]
      exact P6
end Go.Proofs.Ytlkdbmoocajjlaa.Al

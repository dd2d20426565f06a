/- The law DiskDown holds of the program: proved over what is known of memory, each function by its contract. -/
import Derived.Test.YtkahpaipciooiaeAlLawDiskDown
import Derived.Test.YtkahpaipciooiaeDskOpen
namespace Go.Proofs.Ytkahpaipciooiae.AlDiskDown
open Go Go.Al Go.Proofs Go.RowKit Go.Proofs.Ytkahpaipciooiae.Al
set_option maxHeartbeats 8000000
set_option maxRecDepth 100000
set_option linter.unusedVariables false
set_option linter.unusedSimpArgs false
abbrev dkZ : Obj := .cells #[.int .i64 0, .int .i64 0, .int .u8 0, .slice none 0 0] 31
theorem one4 (r : DoR) : ∀ v ∈ doC r, v.oneCell' = true := by simp [doC, Value.oneCell']
theorem down_step {s : DS} {T j : Nat} (hs1 : s.size = 16) (hs2 : s.armed = true) (hs3 : s.left = ((T - j : Nat) : Int)) (hs4 : s.down = decide (T < j)) (hs5 : s.writes = ((min j T : Nat) : Int)) {i : Int} (hi : 0 ≤ i ∧ i < 16) {l : List UInt8} (hl : l.length = 256) :
    writeE s i l = (if T ≤ j then 5 else 0) ∧ (writeS s i l).size = 16 ∧ (writeS s i l).armed = true ∧ (writeS s i l).left = ((T - (j + 1) : Nat) : Int) ∧ (writeS s i l).down = decide (T < j + 1) ∧ (writeS s i l).writes = ((min (j + 1) T : Nat) : Int) := by
  have hr : ¬ (¬ (0 ≤ i ∧ i < s.size) ∨ l.length ≠ 256) := by rw [hs1]; rintro (h | h); exact h hi; exact h hl
  unfold writeE writeS
  by_cases h1 : T < j
  · have hd : s.down = true := by rw [hs4]; exact decide_eq_true h1
    rw [if_pos hd, if_pos (Or.inl hd : s.down = true ∨ ¬ (0 ≤ i ∧ i < s.size) ∨ l.length ≠ 256), if_pos (by omega : T ≤ j)]
    exact ⟨rfl, hs1, hs2, by rw [hs3]; omega, by rw [hd]; exact (decide_eq_true (by omega)).symm, by rw [hs5]; omega⟩
  · have hd : ¬ s.down = true := by rw [hs4, decide_eq_false h1]; decide
    rw [if_neg hd, if_neg hr, if_neg (fun h : s.down = true ∨ ¬ (0 ≤ i ∧ i < s.size) ∨ l.length ≠ 256 => h.elim hd hr)]
    by_cases h2 : T = j
    · have hb : ¬ burnOk s.armed s.left = true := by
        rw [hs2, hs3, show T - j = 0 by omega]
        decide
      rw [if_neg hb, if_neg hb, if_pos (by omega)]
      exact ⟨rfl, hs1, hs2, by show s.left = _; rw [hs3]; omega, by show true = _; exact (decide_eq_true (by omega)).symm, by show s.writes = _; rw [hs5]; omega⟩
    · have hb : burnOk s.armed s.left = true := by
        unfold burnOk
        rw [hs2]
        simp
        omega
      rw [if_pos hb, if_pos hb, if_neg (by omega)]
      refine ⟨rfl, hs1, hs2, ?_, ?_, ?_⟩
      · show (if s.armed = true then s.left - 1 else s.left) = _
        rw [if_pos hs2, hs3]
        omega
      · show s.down = _
        rw [hs4, decide_eq_false h1]
        exact (decide_eq_false (by omega)).symm
      · show s.writes + 1 = _
        rw [hs5]
        omega
theorem law : LawK := by
  intro F n w0 x1 w1 A1 c1 hc1 hK1
  obtain ⟨rs, hrl, hrow, hok⟩ := do_open w1.2 hK1
  rw [← hrl]
  clear hK1 w1
  (refine fn_walk tab_ok Try.func3 rfl rfl rfl rfl ?_; (conv => whnf))
  refine call_of (new 16 F) ?_
  rintro v F1 h
  rcases h with ⟨h, _⟩ | ⟨_, _, b, D1, rfl, hM1, hD1⟩
  · omega
  ((conv => whnf); repeat (first | (apply load_at; (conv => lhs; whnf); (with_reducible assumption); rfl; (conv => whnf)) | (apply load_at; (conv => lhs; rw [add_plain, add_plain]); (with_reducible assumption); rfl; (conv => whnf)) | (apply loads_at; (conv => lhs; whnf); (with_reducible assumption); rfl; (conv => whnf)) | (refine ⟨⟨by omega, by omega⟩, ?_⟩; (conv => whnf))))
  refine cond_split (fun h => ?_) (fun h => ?_)
  · ((conv => whnf); repeat (first | (apply load_at; (conv => lhs; whnf); (with_reducible assumption); rfl; (conv => whnf)) | (apply load_at; (conv => lhs; rw [add_plain, add_plain]); (with_reducible assumption); rfl; (conv => whnf)) | (apply loads_at; (conv => lhs; whnf); (with_reducible assumption); rfl; (conv => whnf)) | (refine ⟨⟨by omega, by omega⟩, ?_⟩; (conv => whnf))))
    refine call_of (Al.awake _) ?_
    rintro v F9 ⟨rfl, hF9⟩
    ((conv => whnf); repeat (first | (apply load_at; (conv => lhs; whnf); (with_reducible assumption); rfl; (conv => whnf)) | (apply load_at; (conv => lhs; rw [add_plain, add_plain]); (with_reducible assumption); rfl; (conv => whnf)) | (apply loads_at; (conv => lhs; whnf); (with_reducible assumption); rfl; (conv => whnf)) | (refine ⟨⟨by omega, by omega⟩, ?_⟩; (conv => whnf))))
    exact ⟨rfl, fun c o hc => hF9 _ _ (hM1.out c o hc rfl)⟩
  have h : decide ((rs.length : Int) > 60) = false := h
  have hl : rs.length ≤ 60 := by have := of_decide_eq_false h; omega
  refine short [0, 1, 5] [.int .u8 n, .slice A1 rs.length c1, .pointer (some ⟨b, 0, none⟩)] rfl fun ρ => ?_
  obtain ⟨T, hT, hn⟩ : ∃ T : Nat, T < 40 ∧ IntKind.i64.wrap (n.tmod 40) = (T : Int) := by
    have h0 : 0 ≤ n ∧ n ≤ 255 := by
      simp [Lit.wf, IntKind.min, IntKind.max, IntKind.signed, IntKind.bits] at w0
      omega
    refine ⟨(n.tmod 40).toNat, ?_, ?_⟩ <;> rw [Int.tmod_eq_emod_of_nonneg h0.1]
    · omega
    · rw [wrap_eq (by omega) (by omega)]; omega
  have harm := fun D G hE hD => arms (D := D) (F := G) (b := b) (s := newS 16) hE hD (IntKind.i64.wrap (n.tmod 40)) (by omega)
  rw [show max (IntKind.i64.wrap (n.tmod 40)) 0 = (T : Int) by omega, show decide (IntKind.i64.wrap (n.tmod 40) ≥ 0) = true from decide_eq_true (by omega)] at harm
  ((conv => whnf); repeat (first | (apply load_at; (conv => lhs; whnf); (with_reducible assumption); rfl; (conv => whnf)) | (apply load_at; (conv => lhs; rw [add_plain, add_plain]); (with_reducible assumption); rfl; (conv => whnf)) | (apply loads_at; (conv => lhs; whnf); (with_reducible assumption); rfl; (conv => whnf)) | (refine ⟨⟨by omega, by omega⟩, ?_⟩; (conv => whnf))))
  refine ⟨by decide, ?_⟩
  ((conv => whnf); repeat (first | (apply load_at; (conv => lhs; whnf); (with_reducible assumption); rfl; (conv => whnf)) | (apply load_at; (conv => lhs; rw [add_plain, add_plain]); (with_reducible assumption); rfl; (conv => whnf)) | (apply loads_at; (conv => lhs; whnf); (with_reducible assumption); rfl; (conv => whnf)) | (refine ⟨⟨by omega, by omega⟩, ?_⟩; (conv => whnf))))
  refine call_of (harm _ _ hM1.inn hD1) ?_
  rintro v F2 ⟨rfl, D2, hM2, hD2⟩
  replace hM2 := hM1.trans hM2
  clear harm hM1
  refine short [0, 1, 5] [.int .u8 n, .slice A1 rs.length c1, .pointer (some ⟨b, 0, none⟩)] rfl fun ρ => ?_
  ((conv => whnf); repeat (first | (apply load_at; (conv => lhs; whnf); (with_reducible assumption); rfl; (conv => whnf)) | (apply load_at; (conv => lhs; rw [add_plain, add_plain]); (with_reducible assumption); rfl; (conv => whnf)) | (apply loads_at; (conv => lhs; whnf); (with_reducible assumption); rfl; (conv => whnf)) | (refine ⟨⟨by omega, by omega⟩, ?_⟩; (conv => whnf))))
  refine loop_slots [0, 1, 5, 41, 42, 43] (fun k vs F' => ∃ (j : Nat) (D' : Heap) (s : DS), j + k = rs.length ∧ vs = [.int .u8 n, .slice A1 rs.length c1, .pointer (some ⟨b, 0, none⟩), .slice A1 rs.length c1, .int .i64 (rs.length : Int), .int .i64 (j : Int)] ∧ Moves emptyH F D' F' ∧ Dk D' b s ∧ s.size = 16 ∧ s.armed = true ∧ s.left = ((T - j : Nat) : Int) ∧ s.down = decide (T < j) ∧ s.writes = ((min j T : Nat) : Int)) rs.length ⟨0, D2, _, by omega, rfl, hM2, hD2, rfl, rfl, rfl, rfl, (by rw [Nat.zero_min]; rfl)⟩ ?_
  rintro k vs F3 ρ ⟨j, D3, s, hjk, rfl, hM3, hD3, hs1, hs2, hs3, hs4, hs5⟩
  have hE3 : Ext F F3 := fun c o hc => hM3.out c o hc rfl
  ((conv => whnf); repeat (first | (apply load_at; (conv => lhs; whnf); (with_reducible assumption); rfl; (conv => whnf)) | (apply load_at; (conv => lhs; rw [add_plain, add_plain]); (with_reducible assumption); rfl; (conv => whnf)) | (apply loads_at; (conv => lhs; whnf); (with_reducible assumption); rfl; (conv => whnf)) | (refine ⟨⟨by omega, by omega⟩, ?_⟩; (conv => whnf))))
  refine cond_split (fun h => ?_) (fun h => ?_)
  · have hj : j < rs.length := by have := of_decide_eq_true h; omega
    obtain ⟨ad, rfl⟩ := hrow.some (by rw [rowS_len doC_len]; omega)
    obtain ⟨r, hr⟩ : ∃ r, rs[j]? = some r := ⟨_, List.getElem?_eq_getElem hj⟩
    ((conv => whnf); repeat (first | (apply load_at; (conv => lhs; whnf); (with_reducible assumption); rfl; (conv => whnf)) | (apply load_at; (conv => lhs; rw [add_plain, add_plain]); (with_reducible assumption); rfl; (conv => whnf)) | (apply loads_at; (conv => lhs; whnf); (with_reducible assumption); rfl; (conv => whnf)) | (refine ⟨⟨by omega, by omega⟩, ?_⟩; (conv => whnf))))
    refine rowS_loads doC_len (by decide) (hrow.mono hE3) hr ?_
    ((conv => whnf); repeat (first | (apply load_at; (conv => lhs; whnf); (with_reducible assumption); rfl; (conv => whnf)) | (apply load_at; (conv => lhs; rw [add_plain, add_plain]); (with_reducible assumption); rfl; (conv => whnf)) | (apply loads_at; (conv => lhs; whnf); (with_reducible assumption); rfl; (conv => whnf)) | (refine ⟨⟨by omega, by omega⟩, ?_⟩; (conv => whnf))))
    refine new_step (dkZ) rfl fun g h0_g => ?_
    have hU_g := Heap.put_same F3 g (dkZ)
    have hX_g := fun o => (ext_put_put h0_g (o := dkZ) (o' := o))
    generalize F3.put g (dkZ) = F4 at hU_g hX_g ⊢
    (conv => whnf)
    refine store_step g 0 _ ((doC r).toArray) rfl hU_g rfl rfl (.inl (Nat.le_refl 0)) (one4 r) ?_
    have hB_g := Heap.put_same F4 g (.cells (doC r).toArray 31)
    have hE_g := hX_g (.cells (doC r).toArray 31)
    clear hU_g hX_g
    generalize F4.put g _ = F4 at hB_g hE_g ⊢
    have hM4 := hM3.trans (Moves.ext hM3.inn hE_g)
    have hii := i15_lt r.i
    obtain ⟨q1, q2, q3, q4, q5, q6⟩ := down_step hs1 hs2 hs3 hs4 hs5 (i := ((i15 r.i : Nat) : Int)) (by omega) (l := List.replicate 256 r.byte) (by rw [List.length_replicate])
    refine short [0, 1, 5, 41, 42, 43, 7, 8] [.int .u8 n, .slice (some ad) rs.length c1, .pointer (some ⟨b, 0, none⟩), .slice (some ad) rs.length c1, .int .i64 (rs.length : Int), .int .i64 (j : Int), .int .i64 (j : Int), .pointer (some ⟨g, 0, none⟩)] rfl fun ρ => ?_
    ((conv => whnf); repeat (first | (apply load_at; (conv => lhs; whnf); (with_reducible assumption); rfl; (conv => whnf)) | (apply load_at; (conv => lhs; rw [add_plain, add_plain]); (with_reducible assumption); rfl; (conv => whnf)) | (apply loads_at; (conv => lhs; whnf); (with_reducible assumption); rfl; (conv => whnf)) | (refine ⟨⟨by omega, by omega⟩, ?_⟩; (conv => whnf))))
    refine ⟨by decide, ?_⟩
    ((conv => whnf); repeat (first | (apply load_at; (conv => lhs; whnf); (with_reducible assumption); rfl; (conv => whnf)) | (apply load_at; (conv => lhs; rw [add_plain, add_plain]); (with_reducible assumption); rfl; (conv => whnf)) | (apply loads_at; (conv => lhs; whnf); (with_reducible assumption); rfl; (conv => whnf)) | (refine ⟨⟨by omega, by omega⟩, ?_⟩; (conv => whnf))))
    refine cond_split (fun h => ?_) (fun h => ?_)
    · have h : decide ((j : Int) ≥ IntKind.i64.wrap (n.tmod 40)) = true := h
      have hTj : T ≤ j := by have := of_decide_eq_true h; omega
      rw [if_pos hTj] at q1
      ((conv => whnf); repeat (first | (apply load_at; (conv => lhs; whnf); (with_reducible assumption); rfl; (conv => whnf)) | (apply load_at; (conv => lhs; rw [add_plain, add_plain]); (with_reducible assumption); rfl; (conv => whnf)) | (apply loads_at; (conv => lhs; whnf); (with_reducible assumption); rfl; (conv => whnf)) | (refine ⟨⟨by omega, by omega⟩, ?_⟩; (conv => whnf))))
      refine draw_walk tab_ok (by kernel_rfl) [0, 1, 2, 3, 4, 5, 8, 6, 7, 9] (by kernel_rfl) ?_
      ((conv => whnf); repeat (first | (apply load_at; (conv => lhs; whnf); (with_reducible assumption); rfl; (conv => whnf)) | (apply load_at; (conv => lhs; rw [add_plain, add_plain]); (with_reducible assumption); rfl; (conv => whnf)) | (apply loads_at; (conv => lhs; whnf); (with_reducible assumption); rfl; (conv => whnf)) | (refine ⟨⟨by omega, by omega⟩, ?_⟩; (conv => whnf))))
      refine call_of (sector r.byte F4) ?_
      rintro v F5 ⟨hrow5, hE5⟩
      (conv => whnf)
      refine ⟨hE5, ?_⟩
      ((conv => whnf); repeat (first | (apply load_at; (conv => lhs; whnf); (with_reducible assumption); rfl; (conv => whnf)) | (apply load_at; (conv => lhs; rw [add_plain, add_plain]); (with_reducible assumption); rfl; (conv => whnf)) | (apply loads_at; (conv => lhs; whnf); (with_reducible assumption); rfl; (conv => whnf)) | (refine ⟨⟨by omega, by omega⟩, ?_⟩; (conv => whnf))))
      refine call_of (args_eq ?ha (writeSec r.byte hM4.inn hD3 hrow5 hE5 ((i15 r.i : Nat) : Int) (by omega))) ?_
      case ha =>
        rw [← wrap_i15 r.i]
        rfl
      rintro v F6 ⟨hv, D6, hM6, hD6⟩
      rw [q1] at hv
      subst hv
      ((conv => whnf); repeat (first | (apply load_at; (conv => lhs; whnf); (with_reducible assumption); rfl; (conv => whnf)) | (apply load_at; (conv => lhs; rw [add_plain, add_plain]); (with_reducible assumption); rfl; (conv => whnf)) | (apply loads_at; (conv => lhs; whnf); (with_reducible assumption); rfl; (conv => whnf)) | (refine ⟨⟨by omega, by omega⟩, ?_⟩; (conv => whnf))))
      refine ⟨k - 1, by omega, j + 1, D6, _, by omega, ?_, hM4.trans hM6, hD6, q2, q3, q4, q5, q6⟩
      rw [← wrap_succ (j := j) (by omega)]
      rfl
    · have h : decide ((j : Int) ≥ IntKind.i64.wrap (n.tmod 40)) = false := h
      have hTj : ¬ T ≤ j := by have := of_decide_eq_false h; omega
      rw [if_neg hTj] at q1
      ((conv => whnf); repeat (first | (apply load_at; (conv => lhs; whnf); (with_reducible assumption); rfl; (conv => whnf)) | (apply load_at; (conv => lhs; rw [add_plain, add_plain]); (with_reducible assumption); rfl; (conv => whnf)) | (apply loads_at; (conv => lhs; whnf); (with_reducible assumption); rfl; (conv => whnf)) | (refine ⟨⟨by omega, by omega⟩, ?_⟩; (conv => whnf))))
      refine draw_walk tab_ok (by kernel_rfl) [0, 1, 2, 3, 4, 5, 8, 6, 7, 9] (by kernel_rfl) ?_
      ((conv => whnf); repeat (first | (apply load_at; (conv => lhs; whnf); (with_reducible assumption); rfl; (conv => whnf)) | (apply load_at; (conv => lhs; rw [add_plain, add_plain]); (with_reducible assumption); rfl; (conv => whnf)) | (apply loads_at; (conv => lhs; whnf); (with_reducible assumption); rfl; (conv => whnf)) | (refine ⟨⟨by omega, by omega⟩, ?_⟩; (conv => whnf))))
      refine call_of (sector r.byte F4) ?_
      rintro v F5 ⟨hrow5, hE5⟩
      (conv => whnf)
      refine ⟨hE5, ?_⟩
      ((conv => whnf); repeat (first | (apply load_at; (conv => lhs; whnf); (with_reducible assumption); rfl; (conv => whnf)) | (apply load_at; (conv => lhs; rw [add_plain, add_plain]); (with_reducible assumption); rfl; (conv => whnf)) | (apply loads_at; (conv => lhs; whnf); (with_reducible assumption); rfl; (conv => whnf)) | (refine ⟨⟨by omega, by omega⟩, ?_⟩; (conv => whnf))))
      refine call_of (args_eq ?ha (writeSec r.byte hM4.inn hD3 hrow5 hE5 ((i15 r.i : Nat) : Int) (by omega))) ?_
      case ha =>
        rw [← wrap_i15 r.i]
        rfl
      rintro v F6 ⟨hv, D6, hM6, hD6⟩
      rw [q1] at hv
      subst hv
      ((conv => whnf); repeat (first | (apply load_at; (conv => lhs; whnf); (with_reducible assumption); rfl; (conv => whnf)) | (apply load_at; (conv => lhs; rw [add_plain, add_plain]); (with_reducible assumption); rfl; (conv => whnf)) | (apply loads_at; (conv => lhs; whnf); (with_reducible assumption); rfl; (conv => whnf)) | (refine ⟨⟨by omega, by omega⟩, ?_⟩; (conv => whnf))))
      refine ⟨k - 1, by omega, j + 1, D6, _, by omega, ?_, hM4.trans hM6, hD6, q2, q3, q4, q5, q6⟩
      rw [← wrap_succ (j := j) (by omega)]
      rfl
  · have hj : j = rs.length := by have := of_decide_eq_false h; omega
    subst hj
    have hwr := dk_writes hM3.inn hD3
    have hdn := dk_down hM3.inn hD3
    refine short [0, 1, 5] [.int .u8 n, .slice A1 rs.length c1, .pointer (some ⟨b, 0, none⟩)] rfl fun ρ => ?_
    ((conv => whnf); repeat (first | (apply load_at; (conv => lhs; whnf); (with_reducible assumption); rfl; (conv => whnf)) | (apply load_at; (conv => lhs; rw [add_plain, add_plain]); (with_reducible assumption); rfl; (conv => whnf)) | (apply loads_at; (conv => lhs; whnf); (with_reducible assumption); rfl; (conv => whnf)) | (refine ⟨⟨by omega, by omega⟩, ?_⟩; (conv => whnf))))
    refine call_of hwr ?_
    rintro v F4 ⟨rfl, rfl⟩
    ((conv => whnf); repeat (first | (apply load_at; (conv => lhs; whnf); (with_reducible assumption); rfl; (conv => whnf)) | (apply load_at; (conv => lhs; rw [add_plain, add_plain]); (with_reducible assumption); rfl; (conv => whnf)) | (apply loads_at; (conv => lhs; whnf); (with_reducible assumption); rfl; (conv => whnf)) | (refine ⟨⟨by omega, by omega⟩, ?_⟩; (conv => whnf))))
    refine ⟨by decide, ?_⟩
    ((conv => whnf); repeat (first | (apply load_at; (conv => lhs; whnf); (with_reducible assumption); rfl; (conv => whnf)) | (apply load_at; (conv => lhs; rw [add_plain, add_plain]); (with_reducible assumption); rfl; (conv => whnf)) | (apply loads_at; (conv => lhs; whnf); (with_reducible assumption); rfl; (conv => whnf)) | (refine ⟨⟨by omega, by omega⟩, ?_⟩; (conv => whnf))))
    refine cond_split (fun h => ?_) (fun h => ?_)
    case refine_2 =>
      have h : (!(s.writes != (if IntKind.i64.wrap (n.tmod 40) < (rs.length : Int) then IntKind.i64.wrap (n.tmod 40) else (rs.length : Int)))) = false := h
      have h2 : s.writes = (if IntKind.i64.wrap (n.tmod 40) < (rs.length : Int) then IntKind.i64.wrap (n.tmod 40) else (rs.length : Int)) := by
        rw [hs5, hn]
        split <;> omega
      rw [← h2] at h
      simp at h
    ((conv => whnf); repeat (first | (apply load_at; (conv => lhs; whnf); (with_reducible assumption); rfl; (conv => whnf)) | (apply load_at; (conv => lhs; rw [add_plain, add_plain]); (with_reducible assumption); rfl; (conv => whnf)) | (apply loads_at; (conv => lhs; whnf); (with_reducible assumption); rfl; (conv => whnf)) | (refine ⟨⟨by omega, by omega⟩, ?_⟩; (conv => whnf))))
    refine call_of hdn ?_
    rintro v F5 ⟨rfl, rfl⟩
    ((conv => whnf); repeat (first | (apply load_at; (conv => lhs; whnf); (with_reducible assumption); rfl; (conv => whnf)) | (apply load_at; (conv => lhs; rw [add_plain, add_plain]); (with_reducible assumption); rfl; (conv => whnf)) | (apply loads_at; (conv => lhs; whnf); (with_reducible assumption); rfl; (conv => whnf)) | (refine ⟨⟨by omega, by omega⟩, ?_⟩; (conv => whnf))))
    refine ⟨by decide, ?_⟩
    ((conv => whnf); repeat (first | (apply load_at; (conv => lhs; whnf); (with_reducible assumption); rfl; (conv => whnf)) | (apply load_at; (conv => lhs; rw [add_plain, add_plain]); (with_reducible assumption); rfl; (conv => whnf)) | (apply loads_at; (conv => lhs; whnf); (with_reducible assumption); rfl; (conv => whnf)) | (refine ⟨⟨by omega, by omega⟩, ?_⟩; (conv => whnf))))
    have hdd : s.down = decide ((rs.length : Int) > IntKind.i64.wrap (n.tmod 40)) := by
      rw [hs4, hn]
      exact decide_eq_decide.2 (by omega)
    refine cond_split (fun h => ?_) (fun h => ?_)
    · have h : (s.down != decide ((rs.length : Int) > IntKind.i64.wrap (n.tmod 40))) = true := h
      rw [← hdd] at h
      simp at h
    have hcr := crash hM3.inn hD3 (emptyH_ext _) (Apart.symm (Apart.none _)) [] none 0 (RowAt.nil _ _) (by decide)
    have hre : s.down = true → readE s 0 = 5 := fun h => by unfold readE; rw [if_pos h]
    have hfe : s.down = true → flushE s = 5 := fun h => by unfold flushE; rw [if_pos h]
    have hfs : s.down = true → flushS s = s := fun h => by unfold flushS; rw [if_pos h]
    have tail : ∀ (D : Heap) (G : Heap), Moves emptyH F D G → Dk D b s → ∀ ρ : Env, True := fun _ _ _ _ _ => trivial
    refine short [0, 1, 5] [.int .u8 n, .slice A1 rs.length c1, .pointer (some ⟨b, 0, none⟩)] rfl fun ρ => ?_
    ((conv => whnf); repeat (first | (apply load_at; (conv => lhs; whnf); (with_reducible assumption); rfl; (conv => whnf)) | (apply load_at; (conv => lhs; rw [add_plain, add_plain]); (with_reducible assumption); rfl; (conv => whnf)) | (apply loads_at; (conv => lhs; whnf); (with_reducible assumption); rfl; (conv => whnf)) | (refine ⟨⟨by omega, by omega⟩, ?_⟩; (conv => whnf))))
    refine call_of hdn ?_
    rintro v F6 ⟨rfl, rfl⟩
    ((conv => whnf); repeat (first | (apply load_at; (conv => lhs; whnf); (with_reducible assumption); rfl; (conv => whnf)) | (apply load_at; (conv => lhs; rw [add_plain, add_plain]); (with_reducible assumption); rfl; (conv => whnf)) | (apply loads_at; (conv => lhs; whnf); (with_reducible assumption); rfl; (conv => whnf)) | (refine ⟨⟨by omega, by omega⟩, ?_⟩; (conv => whnf))))
    refine cond_split (fun h => ?_) (fun h => ?_)
    · have hd : s.down = true := h
      ((conv => whnf); repeat (first | (apply load_at; (conv => lhs; whnf); (with_reducible assumption); rfl; (conv => whnf)) | (apply load_at; (conv => lhs; rw [add_plain, add_plain]); (with_reducible assumption); rfl; (conv => whnf)) | (apply loads_at; (conv => lhs; whnf); (with_reducible assumption); rfl; (conv => whnf)) | (refine ⟨⟨by omega, by omega⟩, ?_⟩; (conv => whnf))))
      refine call_of (read hM3.inn hD3 0) ?_
      rintro v F7 ⟨u, rfl, _, hE7⟩
      rw [hre hd]
      ((conv => whnf); repeat (first | (apply load_at; (conv => lhs; whnf); (with_reducible assumption); rfl; (conv => whnf)) | (apply load_at; (conv => lhs; rw [add_plain, add_plain]); (with_reducible assumption); rfl; (conv => whnf)) | (apply loads_at; (conv => lhs; whnf); (with_reducible assumption); rfl; (conv => whnf)) | (refine ⟨⟨by omega, by omega⟩, ?_⟩; (conv => whnf))))
      have hM7 := hM3.trans (Moves.ext hM3.inn hE7)
      refine call_of (flush hM7.inn hD3) ?_
      rintro v F8 ⟨hv, D8, hM8, hD8⟩
      rw [hfe hd] at hv
      subst hv
      rw [hfs hd] at hD8
      have hM9 := hM7.trans hM8
      refine short [5, 93, 95] [.pointer (some ⟨b, 0, none⟩), .bool false, .int .i64 5] rfl fun ρ => ?_
      ((conv => whnf); repeat (first | (apply load_at; (conv => lhs; whnf); (with_reducible assumption); rfl; (conv => whnf)) | (apply load_at; (conv => lhs; rw [add_plain, add_plain]); (with_reducible assumption); rfl; (conv => whnf)) | (apply loads_at; (conv => lhs; whnf); (with_reducible assumption); rfl; (conv => whnf)) | (refine ⟨⟨by omega, by omega⟩, ?_⟩; (conv => whnf))))
      refine call_of (crash hM9.inn hD8 (emptyH_ext _) (Apart.symm (Apart.none _)) [] none 0 (RowAt.nil _ _) (by decide)) ?_
      rintro v F9 ⟨rfl, D9, hM10, hD9⟩
      replace hM10 := hM9.trans hM10
      refine short [5] [.pointer (some ⟨b, 0, none⟩)] rfl fun ρ => ?_
      ((conv => whnf); repeat (first | (apply load_at; (conv => lhs; whnf); (with_reducible assumption); rfl; (conv => whnf)) | (apply load_at; (conv => lhs; rw [add_plain, add_plain]); (with_reducible assumption); rfl; (conv => whnf)) | (apply loads_at; (conv => lhs; whnf); (with_reducible assumption); rfl; (conv => whnf)) | (refine ⟨⟨by omega, by omega⟩, ?_⟩; (conv => whnf))))
      refine call_of (dk_down hM10.inn hD9) ?_
      rintro v F10 ⟨rfl, rfl⟩
      ((conv => whnf); repeat (first | (apply load_at; (conv => lhs; whnf); (with_reducible assumption); rfl; (conv => whnf)) | (apply load_at; (conv => lhs; rw [add_plain, add_plain]); (with_reducible assumption); rfl; (conv => whnf)) | (apply loads_at; (conv => lhs; whnf); (with_reducible assumption); rfl; (conv => whnf)) | (refine ⟨⟨by omega, by omega⟩, ?_⟩; (conv => whnf))))
      refine call_of (sector 1 F10) ?_
      rintro v F11 ⟨hr11, hE11⟩
      ((conv => whnf); repeat (first | (apply load_at; (conv => lhs; whnf); (with_reducible assumption); rfl; (conv => whnf)) | (apply load_at; (conv => lhs; rw [add_plain, add_plain]); (with_reducible assumption); rfl; (conv => whnf)) | (apply loads_at; (conv => lhs; whnf); (with_reducible assumption); rfl; (conv => whnf)) | (refine ⟨⟨by omega, by omega⟩, ?_⟩; (conv => whnf))))
      refine call_of (writeSec 1 hM10.inn hD9 hr11 hE11 0 (by show s.writes < _; rw [hs5]; omega)) ?_
      rintro v F12 ⟨hv, D12, hM12, hD12⟩
      rw [show writeE (crashS s []) 0 (List.replicate 256 1) = 0 by
        unfold writeE
        have h1 : ¬ (crashS s []).down = true := by show ¬ false = true; decide
        have h2 : ¬ (¬ ((0 : Int) ≤ 0 ∧ 0 < (crashS s []).size) ∨ (List.replicate 256 (1 : UInt8)).length ≠ 256) := by
          rw [show (crashS s []).size = 16 from hs1, List.length_replicate]
          decide
        rw [if_neg h1, if_neg h2]
        rfl] at hv
      subst hv
      have hM13 := hM10.trans hM12
      refine short [103, 106] [.bool true, .int .i64 0] rfl fun ρ => ?_
      ((conv => whnf); repeat (first | (apply load_at; (conv => lhs; whnf); (with_reducible assumption); rfl; (conv => whnf)) | (apply load_at; (conv => lhs; rw [add_plain, add_plain]); (with_reducible assumption); rfl; (conv => whnf)) | (apply loads_at; (conv => lhs; whnf); (with_reducible assumption); rfl; (conv => whnf)) | (refine ⟨⟨by omega, by omega⟩, ?_⟩; (conv => whnf))))
      refine call_of (Al.awake _) ?_
      rintro v F14 ⟨rfl, hE14⟩
      ((conv => whnf); repeat (first | (apply load_at; (conv => lhs; whnf); (with_reducible assumption); rfl; (conv => whnf)) | (apply load_at; (conv => lhs; rw [add_plain, add_plain]); (with_reducible assumption); rfl; (conv => whnf)) | (apply loads_at; (conv => lhs; whnf); (with_reducible assumption); rfl; (conv => whnf)) | (refine ⟨⟨by omega, by omega⟩, ?_⟩; (conv => whnf))))
      exact ⟨rfl, fun c o hc => hE14 _ _ (hM13.out c o hc rfl)⟩
    · have hd : s.down = false := h
      have hM9 := hM3
      have hD8 := hD3
      ((conv => whnf); repeat (first | (apply load_at; (conv => lhs; whnf); (with_reducible assumption); rfl; (conv => whnf)) | (apply load_at; (conv => lhs; rw [add_plain, add_plain]); (with_reducible assumption); rfl; (conv => whnf)) | (apply loads_at; (conv => lhs; whnf); (with_reducible assumption); rfl; (conv => whnf)) | (refine ⟨⟨by omega, by omega⟩, ?_⟩; (conv => whnf))))
      refine call_of (crash hM9.inn hD8 (emptyH_ext _) (Apart.symm (Apart.none _)) [] none 0 (RowAt.nil _ _) (by decide)) ?_
      rintro v F9 ⟨rfl, D9, hM10, hD9⟩
      replace hM10 := hM9.trans hM10
      refine short [5] [.pointer (some ⟨b, 0, none⟩)] rfl fun ρ => ?_
      ((conv => whnf); repeat (first | (apply load_at; (conv => lhs; whnf); (with_reducible assumption); rfl; (conv => whnf)) | (apply load_at; (conv => lhs; rw [add_plain, add_plain]); (with_reducible assumption); rfl; (conv => whnf)) | (apply loads_at; (conv => lhs; whnf); (with_reducible assumption); rfl; (conv => whnf)) | (refine ⟨⟨by omega, by omega⟩, ?_⟩; (conv => whnf))))
      refine call_of (dk_down hM10.inn hD9) ?_
      rintro v F10 ⟨rfl, rfl⟩
      ((conv => whnf); repeat (first | (apply load_at; (conv => lhs; whnf); (with_reducible assumption); rfl; (conv => whnf)) | (apply load_at; (conv => lhs; rw [add_plain, add_plain]); (with_reducible assumption); rfl; (conv => whnf)) | (apply loads_at; (conv => lhs; whnf); (with_reducible assumption); rfl; (conv => whnf)) | (refine ⟨⟨by omega, by omega⟩, ?_⟩; (conv => whnf))))
      refine call_of (sector 1 F10) ?_
      rintro v F11 ⟨hr11, hE11⟩
      ((conv => whnf); repeat (first | (apply load_at; (conv => lhs; whnf); (with_reducible assumption); rfl; (conv => whnf)) | (apply load_at; (conv => lhs; rw [add_plain, add_plain]); (with_reducible assumption); rfl; (conv => whnf)) | (apply loads_at; (conv => lhs; whnf); (with_reducible assumption); rfl; (conv => whnf)) | (refine ⟨⟨by omega, by omega⟩, ?_⟩; (conv => whnf))))
      refine call_of (writeSec 1 hM10.inn hD9 hr11 hE11 0 (by show s.writes < _; rw [hs5]; omega)) ?_
      rintro v F12 ⟨hv, D12, hM12, hD12⟩
      rw [show writeE (crashS s []) 0 (List.replicate 256 1) = 0 by
        unfold writeE
        have h1 : ¬ (crashS s []).down = true := by show ¬ false = true; decide
        have h2 : ¬ (¬ ((0 : Int) ≤ 0 ∧ 0 < (crashS s []).size) ∨ (List.replicate 256 (1 : UInt8)).length ≠ 256) := by
          rw [show (crashS s []).size = 16 from hs1, List.length_replicate]
          decide
        rw [if_neg h1, if_neg h2]
        rfl] at hv
      subst hv
      have hM13 := hM10.trans hM12
      refine short [103, 106] [.bool true, .int .i64 0] rfl fun ρ => ?_
      ((conv => whnf); repeat (first | (apply load_at; (conv => lhs; whnf); (with_reducible assumption); rfl; (conv => whnf)) | (apply load_at; (conv => lhs; rw [add_plain, add_plain]); (with_reducible assumption); rfl; (conv => whnf)) | (apply loads_at; (conv => lhs; whnf); (with_reducible assumption); rfl; (conv => whnf)) | (refine ⟨⟨by omega, by omega⟩, ?_⟩; (conv => whnf))))
      refine call_of (Al.awake _) ?_
      rintro v F14 ⟨rfl, hE14⟩
      ((conv => whnf); repeat (first | (apply load_at; (conv => lhs; whnf); (with_reducible assumption); rfl; (conv => whnf)) | (apply load_at; (conv => lhs; rw [add_plain, add_plain]); (with_reducible assumption); rfl; (conv => whnf)) | (apply loads_at; (conv => lhs; whnf); (with_reducible assumption); rfl; (conv => whnf)) | (refine ⟨⟨by omega, by omega⟩, ?_⟩; (conv => whnf))))
      exact ⟨rfl, fun c o hc => hE14 _ _ (hM13.out c o hc rfl)⟩
end Go.Proofs.Ytkahpaipciooiae.AlDiskDown

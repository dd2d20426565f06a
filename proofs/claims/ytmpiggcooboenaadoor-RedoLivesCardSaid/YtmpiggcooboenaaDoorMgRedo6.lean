/- Texts of this claim, joined: RlA RlB RlC RlD. -/
import Derived.Test.YtmpiggcooboenaaDoorMgRedo1
import Derived.Test.YtmpiggcooboenaaDoorMgRedo2
import Derived.Test.YtmpiggcooboenaaDoorMgRedo3
import Derived.Test.YtmpiggcooboenaaDoorMgRedo4
import Derived.Test.YtmpiggcooboenaaDoorMgRedo5
/- Logs: the program's and the reference's go together, in plain Lean. -/
namespace Go.Proofs.YtmpiggcooboenaaDoor.Al
open Go Go.Al Go.Proofs Go.RowKit
set_option maxHeartbeats 8000000
set_option maxRecDepth 100000
set_option linter.unusedVariables false
set_option linter.unusedSimpArgs false
theorem sim_same {s : DS} {r : RS} (h : Sim s r) : SameR dsO s rsO r := ⟨h.sz, fun i => (sim_read h i).1, fun i => (sim_read h i).2⟩
theorem writeS_any {s : DS} (h : DWf s) (hw : s.writes < 1000000000) (i : Int) (l : List UInt8) : DWf (writeS s i l) := by
  by_cases h1 : 0 ≤ i ∧ i < s.size
  · by_cases h2 : l.length = 256
    · exact writeS_wf h h1 hw l h2
    · unfold writeS; rw [if_pos (.inr (.inr h2))]; exact h
  · unfold writeS; rw [if_pos (.inr (.inl h1))]; exact h
theorem sim_run : ∀ (ps : List (Int × List UInt8)) (s : DS) (r : RS), Sim s r → DWf s → s.writes + ps.length < 1000000000 → (runW dsO s ps).2 = (runW rsO r ps).2 ∧ Sim (runW dsO s ps).1 (runW rsO r ps).1 ∧ DWf (runW dsO s ps).1
  | [], s, r, h, hw, _ => ⟨(sim_flush h hw).1, (sim_flush h hw).2, flush_wf hw⟩
  | p :: ps, s, r, h, hw, hl => by
    rw [List.length_cons] at hl
    obtain ⟨e1, h1⟩ := sim_write h p.1 p.2
    have w1 := writeS_any hw (by omega) p.1 p.2
    have hle := (writes_le s p.1 p.2).1
    have ih := sim_run ps (writeS s p.1 p.2) (rwriteS r p.1 p.2) h1 w1 (by omega)
    rw [runW_cons, runW_cons]
    show (if writeE s p.1 p.2 = 0 then runW dsO (writeS s p.1 p.2) ps else (writeS s p.1 p.2, writeE s p.1 p.2)).2 = (if rwriteE r p.1 p.2 = 0 then runW rsO (rwriteS r p.1 p.2) ps else (rwriteS r p.1 p.2, rwriteE r p.1 p.2)).2 ∧ Sim (if writeE s p.1 p.2 = 0 then runW dsO (writeS s p.1 p.2) ps else (writeS s p.1 p.2, writeE s p.1 p.2)).1 (if rwriteE r p.1 p.2 = 0 then runW rsO (rwriteS r p.1 p.2) ps else (rwriteS r p.1 p.2, rwriteE r p.1 p.2)).1 ∧ DWf (if writeE s p.1 p.2 = 0 then runW dsO (writeS s p.1 p.2) ps else (writeS s p.1 p.2, writeE s p.1 p.2)).1
    rw [e1]
    by_cases h0 : rwriteE r p.1 p.2 = 0
    · rw [if_pos h0, if_pos h0]; exact ih
    · rw [if_neg h0, if_neg h0]; exact ⟨rfl, h1, w1⟩
theorem sim_open {s : DS} {r : RS} (h : Sim s r) (hw : DWf s) (hl : s.writes + 40000 < 1000000000) : (openS dsO s).2 = (openS rsO r).2 ∧ Sim (openS dsO s).1 (openS rsO r).1 ∧ (openS dsO s).1.writes ≤ s.writes + 40000 ∧ (openS dsO s).1.size = s.size := by
  have hS := sim_same h
  unfold openS
  rw [hS.rdN, hS.whole]
  generalize rdN rsO r = rn
  by_cases h0 : rn.2.2 ≠ 0
  · rw [if_pos h0, if_pos h0]
    exact ⟨rfl, h, (by omega : s.writes ≤ s.writes + 40000), rfl⟩
  rw [if_neg h0, if_neg h0]
  cases e : wholeO rsO r rn.1 rn.2.1 with
  | none => exact ⟨rfl, h, (by omega : s.writes ≤ s.writes + 40000), rfl⟩
  | some ws =>
    obtain ⟨l1, l2⟩ := wholeO_len e
    have hle := pagesN_le (rsO.sz r)
    have hn : (ws.length : Int) ≤ 32768 := by omega
    obtain ⟨e1, h1, w1⟩ := sim_run ws s r h hw (by omega)
    have hrl := runW_le ws s
    dsimp only
    rw [e1]
    by_cases h2 : (runW rsO r ws).2 ≠ 0
    · rw [if_pos h2, if_pos h2]
      exact ⟨rfl, h1, (by omega : (runW dsO s ws).1.writes ≤ s.writes + 40000), hrl.2⟩
    · rw [if_neg h2, if_neg h2]
      exact ⟨rfl, h1, (by omega : (runW dsO s ws).1.writes ≤ s.writes + 40000), hrl.2⟩
theorem sim_commit {s : DS} {r : RS} (h : Sim s r) (hw : DWf s) (q : Int) (ps : List (Int × List UInt8)) (hl : s.writes + 200000 < 1000000000) (hp : ps.length ≤ 50000) : (commitS dsO s q ps).2 = (commitS rsO r q ps).2 ∧ Sim (commitS dsO s q ps).1 (commitS rsO r q ps).1 ∧ (commitS dsO s q ps).1.writes ≤ s.writes + 200000 ∧ (commitS dsO s q ps).1.size = s.size := by
  have hS := sim_same h
  have lw := logW_len (rsO.sz r) (q + 1) 0 ps
  have hh : (homW (rsO.sz r) (q + 1) ps).length = ps.length := by unfold homW; rw [List.length_map]
  unfold commitS
  rw [hS.sz]
  by_cases c1 : (ps.length : Int) > pagesN (rsO.sz r)
  · rw [if_pos c1, if_pos c1]; exact ⟨rfl, h, (by omega : s.writes ≤ s.writes + 200000), rfl⟩
  rw [if_neg c1, if_neg c1]
  by_cases c2 : rightL (rsO.sz r) ps [] = false
  · rw [if_pos c2, if_pos c2]; exact ⟨rfl, h, (by omega : s.writes ≤ s.writes + 200000), rfl⟩
  rw [if_neg c2, if_neg c2]
  by_cases c3 : ps.length = 0
  · rw [if_pos c3, if_pos c3]; exact ⟨rfl, h, (by omega : s.writes ≤ s.writes + 200000), rfl⟩
  rw [if_neg c3, if_neg c3]
  generalize logW (rsO.sz r) (q + 1) 0 ps = L at lw
  generalize homW (rsO.sz r) (q + 1) ps = H at hh
  obtain ⟨e1, h1, w1⟩ := sim_run L s r h hw (by omega)
  have b1 := runW_le L s
  generalize runW dsO s L = x1 at *
  generalize runW rsO r L = y1 at *
  rw [e1]
  by_cases c4 : y1.2 ≠ 0
  · rw [if_pos c4, if_pos c4]; exact ⟨rfl, h1, (by omega : x1.1.writes ≤ s.writes + 200000), b1.2⟩
  rw [if_neg c4, if_neg c4]
  obtain ⟨e2, h2, w2⟩ := sim_run [(0, noteB ps.length (q + 1))] x1.1 y1.1 h1 w1 (by show x1.1.writes + ((1 : Nat) : Int) < _; omega)
  have b2 := runW_le [(0, noteB ps.length (q + 1))] x1.1
  replace b2 : (runW dsO x1.1 [(0, noteB ps.length (q + 1))]).1.writes ≤ x1.1.writes + ((1 : Nat) : Int) ∧ (runW dsO x1.1 [(0, noteB ps.length (q + 1))]).1.size = x1.1.size := b2
  generalize runW dsO x1.1 [(0, noteB ps.length (q + 1))] = x2 at *
  generalize runW rsO y1.1 [(0, noteB ps.length (q + 1))] = y2 at *
  rw [e2]
  by_cases c5 : y2.2 ≠ 0
  · rw [if_pos c5, if_pos c5]; exact ⟨rfl, h2, (by omega : x2.1.writes ≤ s.writes + 200000), b2.2.trans b1.2⟩
  rw [if_neg c5, if_neg c5]
  obtain ⟨e3, h3, w3⟩ := sim_run H x2.1 y2.1 h2 w2 (by omega)
  have b3 := runW_le H x2.1
  exact ⟨congrArg (fun z => (z, q + 1)) e3, h3, (by omega : (runW dsO x2.1 H).1.writes ≤ s.writes + 200000), b3.2.trans (b2.2.trans b1.2)⟩
theorem sim_load {s : DS} {r : RS} (h : Sim s r) (p : Int) : loadE dsO s p = loadE rsO r p ∧ loadL dsO s p = loadL rsO r p := by
  have hS := sim_same h
  unfold loadE loadL
  rw [hS.sz, hS.e, hS.l]
  exact ⟨rfl, rfl⟩
end Go.Proofs.YtmpiggcooboenaaDoor.Al
/- RedoLives: the law's calls, few and images, over what is known of memory. -/
namespace Go.Proofs.YtmpiggcooboenaaDoor.Al
open Go Go.Al Go.Proofs Go.RowKit
set_option maxHeartbeats 8000000
set_option maxRecDepth 100000
set_option linter.unusedVariables false
set_option linter.unusedSimpArgs false
structure LvR where
  op : Int
  i : Int
  byte : UInt8
  pgs : List Int
  P : Option Addr
  pc : Nat
  keep : List Int
  A : Option Addr
  c : Nat
def lvC (r : LvR) : List Value := [.int .i64 r.op, .int .i64 r.i, .int .u8 r.byte.toNat, .slice r.P r.pgs.length r.pc, .slice r.A r.keep.length r.c]
theorem lvC_len (r : LvR) : (lvC r).length = 5 := rfl
abbrev lvK : Kind (Int × (Int × (Int × ((List Int) × (List Int))))) := kPair 1 (kInt .i64) (kPair 1 (kInt .i64) (kPair 1 (kInt .u8) (kPair 1 (kSlice 1 (kInt .i64)) (kSlice 1 (kInt .i64)))))
abbrev lvWf : Int × (Int × (Int × ((List Int) × (List Int)))) → Prop := (fun p => (fun n => (Lit.int .i64 n).wf = true) p.1 ∧ (fun p => (fun n => (Lit.int .i64 n).wf = true) p.1 ∧ (fun p => (fun n => (Lit.int .u8 n).wf = true) p.1 ∧ (fun p => (fun xs => xs.length ≤ maxLen ∧ ∀ x ∈ xs, (fun n => (Lit.int .i64 n).wf = true) x) p.1 ∧ (fun xs => xs.length ≤ maxLen ∧ ∀ x ∈ xs, (fun n => (Lit.int .i64 n).wf = true) x) p.2) p.2) p.2) p.2)
structure LvOk (F : Heap) (r : LvR) : Prop where
  row : RowAt F r.A (r.keep.map (.int .i64))
  pgs : RowAt F r.P (r.pgs.map (.int .i64))
  i : -9223372036854775808 ≤ r.i ∧ r.i < 9223372036854775808
theorem LvOk.mono {F G : Heap} {r : LvR} (h : LvOk F r) (hE : Ext F G) : LvOk G r := ⟨h.row.mono hE, h.pgs.mono hE, h.i⟩
theorem lv_open {F : Heap} {A : Option Addr} {xs : List (Int × (Int × (Int × ((List Int) × (List Int)))))} (w : ∀ x ∈ xs, lvWf x) (h : Elems F A 5 lvK xs) : ∃ rs : List LvR, rs.length = xs.length ∧ RowAt F A (rowS lvC rs) ∧ ∀ r ∈ rs, LvOk F r := by
  obtain ⟨rs, h1, h2, h3⟩ := rowS_open (f := lvC) (Q := fun r _ => LvOk F r) lvC_len (by decide) w h (by
    rintro ⟨op, i, x, pgs, keep⟩ c hw hK
    obtain ⟨c1, d1, rfl, hl1, rfl, c2, d2, rfl, hl2, rfl, c3, d3, rfl, hl3, rfl, c4, d4, rfl, hl4, ⟨A', cc, rfl, hc, hE⟩, A2, cc2, rfl, hc2, hE2⟩ := hK
    obtain ⟨l, hl⟩ := bytes_of_wf (xs := [x]) (by intro y hy; rw [List.mem_singleton.1 hy]; exact hw.2.2.1)
    match l, hl with
    | [b], hl =>
      obtain rfl : x = (b.toNat : Int) := by simpa using hl
      exact ⟨⟨op, i, b, pgs, A', cc, keep, A2, cc2⟩, rfl, elems_ints hE2, elems_ints hE, wf_i64 hw.2.1⟩)
  refine ⟨rs, h1, h2, fun r hr => ?_⟩
  obtain ⟨j, hj, rfl⟩ := List.getElem_of_mem hr
  exact h3 j _ _ (List.getElem?_eq_getElem hj) (List.getElem?_eq_getElem (by omega))
def fewV (r : LvR) : Bool := decide (r.keep.length ≤ 60) && decide (r.pgs.length ≤ 30)
theorem fewV1 (r : LvR) (F : Heap) : FnK Tryd.prog 77 #[.agg (lvC r).toArray] F (fun v F' => v = .bool (!fewV r) ∧ Ext F F') := by
  obtain ⟨op, i, x, pgs, P, pc, keep, A, c⟩ := r
  have hf : fewV ⟨op, i, x, pgs, P, pc, keep, A, c⟩ = (decide (keep.length ≤ 60) && decide (pgs.length ≤ 30)) := rfl
  generalize fewV ⟨op, i, x, pgs, P, pc, keep, A, c⟩ = q at hf
  (refine fn_walk tab_ok Tryd.func77 rfl rfl rfl rfl ?_; (conv => whnf))
  refine new_step (.cells (lvC ⟨op, i, x, pgs, P, pc, keep, A, c⟩).toArray 82) rfl fun p h0_p => ?_
  have hE_p := Ext.new h0_p (.cells (lvC ⟨op, i, x, pgs, P, pc, keep, A, c⟩).toArray 82)
  have hB_p := Heap.put_same F p (.cells (lvC ⟨op, i, x, pgs, P, pc, keep, A, c⟩).toArray 82)
  generalize F.put p _ = F1 at hE_p hB_p ⊢
  ((conv => whnf); repeat (first | (apply load_at; (conv => lhs; whnf); (with_reducible assumption); rfl; (conv => whnf)) | (apply load_at; (conv => lhs; rw [add_plain, add_plain]); (with_reducible assumption); rfl; (conv => whnf)) | (apply loads_at; (conv => lhs; whnf); (with_reducible assumption); rfl; (conv => whnf)) | (refine ⟨⟨by omega, by omega⟩, ?_⟩; (conv => whnf))))
  refine cond_split (fun h => ?_) (fun h => ?_)
  · have h : (!decide ((keep.length : Int) > 60)) = true := h
    have h1 : keep.length ≤ 60 := by simp at h; omega
    rw [decide_eq_true h1, Bool.true_and] at hf
    ((conv => whnf); repeat (first | (apply load_at; (conv => lhs; whnf); (with_reducible assumption); rfl; (conv => whnf)) | (apply load_at; (conv => lhs; rw [add_plain, add_plain]); (with_reducible assumption); rfl; (conv => whnf)) | (apply loads_at; (conv => lhs; whnf); (with_reducible assumption); rfl; (conv => whnf)) | (refine ⟨⟨by omega, by omega⟩, ?_⟩; (conv => whnf))))
    refine ⟨congrArg Value.bool ?_, hE_p⟩
    show decide ((pgs.length : Int) > 30) = !q
    rw [hf, Bool.eq_iff_iff]
    simp
    omega
  · have h : (!decide ((keep.length : Int) > 60)) = false := h
    have h1 : ¬ keep.length ≤ 60 := by simp at h; omega
    rw [decide_eq_false h1, Bool.false_and] at hf
    ((conv => whnf); repeat (first | (apply load_at; (conv => lhs; whnf); (with_reducible assumption); rfl; (conv => whnf)) | (apply load_at; (conv => lhs; rw [add_plain, add_plain]); (with_reducible assumption); rfl; (conv => whnf)) | (apply loads_at; (conv => lhs; whnf); (with_reducible assumption); rfl; (conv => whnf)) | (refine ⟨⟨by omega, by omega⟩, ?_⟩; (conv => whnf))))
    refine ⟨congrArg Value.bool ?_, hE_p⟩
    rw [hf]
    rfl
theorem indexV (rs : List LvR) (A : Option Addr) (c : Nat) (F : Heap) (hr : RowAt F A (rowS lvC rs)) (hl : rs.length ≤ 1000) :
    FnK Tryd.prog 113 #[.slice A rs.length c, .func (.func 77) #[] #[]] F (fun v F' => (∃ r : Int, v = .int .i64 r ∧ decide (r ≥ 0) = !rs.all fewV) ∧ Ext F F') := by
  (refine fn_walk tab_ok Tryd.func113 rfl rfl rfl rfl ?_; (conv => whnf))
  refine loop_slots [0, 1, 7, 8] (fun k vs F' => ∃ j : Nat, j + k = rs.length ∧ vs = [.slice A rs.length c, .func (.func 77) #[] #[], .int .i64 (rs.length : Int), .int .i64 (j : Int)] ∧ (rs.take j).all fewV = true ∧ Ext F F') rs.length ⟨0, by omega, rfl, rfl, Ext.refl _⟩ ?_
  rintro k vs F2 ρ ⟨j, hjk, rfl, hall, hE2⟩
  (conv => whnf)
  refine cond_split (fun h => ?_) (fun h => ?_)
  · have hj : j < rs.length := by have := of_decide_eq_true h; omega
    obtain ⟨ad, rfl⟩ := hr.some (by rw [rowS_len lvC_len]; omega)
    have hx : rs[j]? = some rs[j] := List.getElem?_eq_getElem hj
    have hf := fewV1 rs[j]
    have hz : (rs.take (j + 1)).all fewV = fewV rs[j] := by
      rw [List.take_add_one, hx, List.all_append, hall]
      simp
    have hz2 : fewV rs[j] = false → rs.all fewV = false := fun e => by
      rw [← Bool.not_eq_true, List.all_eq_true]
      intro h
      rw [h _ (List.getElem_mem hj)] at e
      cases e
    have hL : ∀ K : Value → Prop, K (.agg (lvC rs[j]).toArray) → LoadsK F2 (ad.add (Int.toNat (j : Int) * 5)) 5 K := fun K hk => rowS_loads lvC_len (by decide) (hr.mono hE2) hx hk
    generalize fewV rs[j] = z at hf hz hz2
    generalize rs[j] = r at hf hL
    (conv => whnf)
    refine ⟨⟨by omega, by omega⟩, ?_⟩
    (conv => whnf)
    refine hL _ ?_
    (conv => whnf)
    refine call_of (hf F2) ?_
    rintro v F3 ⟨rfl, hE3⟩
    replace hE3 := hE2.trans hE3
    cases z with
    | false =>
      have := hz2 rfl
      (conv => whnf)
      refine ⟨⟨(j : Int), rfl, ?_⟩, hE3⟩
      rw [this]
      simp
    | true =>
      (conv => whnf)
      refine ⟨k - 1, by omega, j + 1, by omega, ?_, hz, hE3⟩
      have hw : IntKind.i64.wrap ((j : Int) + 1) = ((j + 1 : Nat) : Int) := by rw [IntKind.wrap_i64]; omega
      rw [← hw]
      rfl
  · have hj : j = rs.length := by have := of_decide_eq_false h; omega
    subst hj
    rw [List.take_length] at hall
    (conv => whnf)
    exact ⟨⟨-1, rfl, by rw [hall]; rfl⟩, hE2⟩
def fewVs (rs : List LvR) : Bool := decide (rs.length ≤ 30) && rs.all fewV
theorem fewVs_of {rs : List LvR} (h : fewVs rs = true) : rs.length ≤ 30 ∧ ∀ r ∈ rs, r.keep.length ≤ 60 ∧ r.pgs.length ≤ 30 := by
  unfold fewVs at h
  obtain ⟨h1, h2⟩ := Bool.and_eq_true_iff.1 h
  refine ⟨of_decide_eq_true h1, fun r hr => ?_⟩
  have h3 := List.all_eq_true.1 h2 r hr
  unfold fewV at h3
  obtain ⟨h4, h5⟩ := Bool.and_eq_true_iff.1 h3
  exact ⟨of_decide_eq_true h4, of_decide_eq_true h5⟩
theorem few6 (rs : List LvR) (A : Option Addr) (c : Nat) (F : Heap) (hr : RowAt F A (rowS lvC rs)) :
    FnK Tryd.prog 34 #[.slice A rs.length c] F (fun v F' => v = .bool (fewVs rs) ∧ Ext F F') := by
  have hc : rs.length ≤ 30 → FnK Tryd.prog 76 #[.slice A rs.length c, .func (.func 77) #[] #[]] F (fun v F' => v = .bool (!rs.all fewV) ∧ Ext F F') := fun hl => by
    have hi := indexV rs A c F hr (by omega)
    (refine fn_walk tab_ok Tryd.func76 rfl rfl rfl rfl ?_; (conv => whnf))
    refine call_of hi ?_
    rintro v F1 ⟨⟨r, rfl, hr'⟩, hE⟩
    (conv => whnf)
    exact ⟨congrArg Value.bool hr', hE⟩
  have hw : fewVs rs = (decide (rs.length ≤ 30) && rs.all fewV) := rfl
  generalize fewVs rs = w at hw
  generalize rs.all fewV = z at hc hw
  (refine fn_walk tab_ok Tryd.func34 rfl rfl rfl rfl ?_; (conv => whnf))
  refine cond_split (fun h => ?_) (fun h => ?_)
  · have h : decide ((rs.length : Int) ≤ 30) = true := h
    have h1 : rs.length ≤ 30 := by have := of_decide_eq_true h; omega
    rw [decide_eq_true h1, Bool.true_and] at hw
    (conv => whnf)
    refine call_of (hc h1) ?_
    rintro v F1 ⟨rfl, hE⟩
    (conv => whnf)
    exact ⟨congrArg Value.bool ((Bool.not_not z).trans hw.symm), hE⟩
  · have h : decide ((rs.length : Int) ≤ 30) = false := h
    have h1 : ¬ rs.length ≤ 30 := by have := of_decide_eq_false h; omega
    rw [decide_eq_false h1, Bool.false_and] at hw
    (conv => whnf)
    exact ⟨congrArg Value.bool hw.symm, Ext.refl _⟩
end Go.Proofs.YtmpiggcooboenaaDoor.Al
/- RedoLives: the law's images, over what is known of memory. -/
namespace Go.Proofs.YtmpiggcooboenaaDoor.Al
open Go Go.Al Go.Proofs Go.RowKit
set_option maxHeartbeats 8000000
set_option maxRecDepth 100000
set_option linter.unusedVariables false
set_option linter.unusedSimpArgs false
def u8I (n : Int) : UInt8 := UInt8.ofNat (n % 256).toNat
theorem u8I_of (n : Int) : IntKind.u8.wrap n = ((u8I n).toNat : Int) := by
  unfold u8I
  rw [u8_wrap, UInt8.toNat_ofNat']
  omega
def imgS (x : UInt8) (l : List Int) : List (Int × List UInt8) := l.map fun n => (n, List.replicate 240 (x + u8I n))
theorem images6 (r : LvR) (F : Heap) (hr : RowAt F r.P (r.pgs.map (.int .i64))) (hl : r.pgs.length ≤ 1000) :
    FnK Tryd.prog 41 #[.agg (lvC r).toArray] F (fun v F' => (∃ (ps : List PcR) (B : Option Addr) (c' : Nat), v = .slice B ps.length c' ∧ RowAt F' B (rowS pcC ps) ∧ (∀ a, B = some a → F a.block = none) ∧ (∀ p ∈ ps, PcOk F' p ∧ ∀ a, p.A = some a → F a.block = none) ∧ ps.map pcW = imgS r.byte r.pgs) ∧ Ext F F') := by
  obtain ⟨op, ii, x, l, P, pc, keep, A, c⟩ := r
  dsimp only at hr hl ⊢
  have hstep : ∀ i, (h : i < l.length) → imgS x (l.take (i + 1)) = imgS x (l.take i) ++ [(l[i], List.replicate 240 (x + u8I l[i]))] := fun i h => by
    unfold imgS
    rw [List.take_add_one, List.getElem?_eq_getElem h, List.map_append]
    rfl
  have hfull : imgS x (l.take l.length) = imgS x l := by rw [List.take_length]
  have h0 : imgS x (l.take 0) = [] := rfl
  generalize imgS x = im at hstep hfull h0
  (refine fn_walk tab_ok Tryd.func41 rfl rfl rfl rfl ?_; (conv => whnf))
  refine new_step (.cells (lvC ⟨op, ii, x, l, P, pc, keep, A, c⟩).toArray 82) rfl fun t h0_t => ?_
  have hE_t := Ext.new h0_t (.cells (lvC ⟨op, ii, x, l, P, pc, keep, A, c⟩).toArray 82)
  have hB_t := Heap.put_same F t (.cells (lvC ⟨op, ii, x, l, P, pc, keep, A, c⟩).toArray 82)
  generalize F.put t _ = F1 at hE_t hB_t ⊢
  replace hr := hr.mono hE_t
  ((conv => whnf); repeat (first | (apply load_at; (conv => lhs; whnf); (with_reducible assumption); rfl; (conv => whnf)) | (apply load_at; (conv => lhs; rw [add_plain, add_plain]); (with_reducible assumption); rfl; (conv => whnf)) | (apply loads_at; (conv => lhs; whnf); (with_reducible assumption); rfl; (conv => whnf)) | (refine ⟨⟨by omega, by omega⟩, ?_⟩; (conv => whnf))))
  refine loop_slots [1, 3, 7, 8, 9] (fun k vs F' => ∃ (i : Nat) (S : Value) (ps : List PcR) (G : Heap), i + k = l.length ∧ ps.length = i ∧ vs = [.pointer (some ⟨t, 0, none⟩), S, .slice P l.length pc, .int .i64 (l.length : Int), .int .i64 (i : Int)] ∧ Mine F1 F' S 67 2 ps.length (rowS pcC ps) ∧ PcsK F1 F' S ps G ∧ ps.map pcW = im (l.take i)) l.length ⟨0, .slice none 0 0, [], F1, by omega, rfl, rfl, Mine.nil _ _ _ _ (Ext.refl _), ⟨Ext.refl _, (fun k h => by cases h), (fun p h => by cases h), fun p h => by cases h⟩, h0.symm⟩ ?_
  rintro k vs F2 ρ ⟨i, S, ps, G, hik, hpi, rfl, hM, hP, hrs⟩
  ((conv => whnf); repeat (first | (apply load_at; (conv => lhs; whnf); (with_reducible assumption); rfl; (conv => whnf)) | (apply load_at; (conv => lhs; rw [add_plain, add_plain]); (with_reducible assumption); rfl; (conv => whnf)) | (apply loads_at; (conv => lhs; whnf); (with_reducible assumption); rfl; (conv => whnf)) | (refine ⟨⟨by omega, by omega⟩, ?_⟩; (conv => whnf))))
  refine cond_split (fun h => ?_) (fun h => ?_)
  · have hi : i < l.length := by
      have h : decide ((i : Int) < (l.length : Int)) = true := h
      have := of_decide_eq_true h
      omega
    obtain ⟨ad, rfl⟩ := hr.some (by rw [List.length_map]; omega)
    have hst := hstep i hi
    have hcl := one_cell (j := i) (v := .int .i64 l[i]) (hr.mono hM.ext) (by rw [List.getElem?_map, List.getElem?_eq_getElem hi]; rfl)
    have hBt := hM.ext _ _ hB_t
    generalize l[i] = n at hst hcl
    have hpg := fun F => page6 (x + u8I n) F
    rw [← u8_add, ← u8I_of n] at hpg
    generalize x + u8I n = z at hpg hst
    ((conv => whnf); repeat (first | (apply load_at; (conv => lhs; whnf); (with_reducible assumption); rfl; (conv => whnf)) | (apply load_at; (conv => lhs; rw [add_plain, add_plain]); (with_reducible assumption); rfl; (conv => whnf)) | (apply loads_at; (conv => lhs; whnf); (with_reducible assumption); rfl; (conv => whnf)) | (refine ⟨⟨by omega, by omega⟩, ?_⟩; (conv => whnf))))
    refine load_step hcl ?_
    ((conv => whnf); repeat (first | (apply load_at; (conv => lhs; whnf); (with_reducible assumption); rfl; (conv => whnf)) | (apply load_at; (conv => lhs; rw [add_plain, add_plain]); (with_reducible assumption); rfl; (conv => whnf)) | (apply loads_at; (conv => lhs; whnf); (with_reducible assumption); rfl; (conv => whnf)) | (refine ⟨⟨by omega, by omega⟩, ?_⟩; (conv => whnf))))
    refine call_of (hpg F2) ?_
    rintro v F3 ⟨⟨B, bc, rfl, hbc, hbr, hbf⟩, hE3⟩
    have hM3 := hM.mono hE3
    have hG3 : Ext (gain G F2 F3) F3 := fun zz o hz => by
      cases e : F2 zz with
      | none => rw [gain_new e] at hz; exact hz
      | some uu => rw [gain_old e] at hz; exact hE3 _ _ (hP.base _ _ hz)
    have hG0 : ∀ k, blk S = some k → gain G F2 F3 k = none := fun k hk => by
      cases e : F2 k with
      | none => exact absurd e (hM.own.there hk)
      | some uu => rw [gain_old e]; exact hP.out k hk
    have hGG : Ext G (gain G F2 F3) := gain_ext hP.base
    refine short [1, 3, 5, 7, 8, 9, 13, 14, 20] [.pointer (some ⟨t, 0, none⟩), S, .int .i64 n, .slice (some ad) l.length pc, .int .i64 (l.length : Int), .int .i64 (i : Int), S, .int .i64 n, .slice B (List.replicate 240 z).length bc] rfl fun ρ => ?_
    ((conv => whnf); repeat (first | (apply load_at; (conv => lhs; whnf); (with_reducible assumption); rfl; (conv => whnf)) | (apply load_at; (conv => lhs; rw [add_plain, add_plain]); (with_reducible assumption); rfl; (conv => whnf)) | (apply loads_at; (conv => lhs; whnf); (with_reducible assumption); rfl; (conv => whnf)) | (refine ⟨⟨by omega, by omega⟩, ?_⟩; (conv => whnf))))
    refine new_step (.cells (rowS pcC [(⟨n, List.replicate 240 z, B, bc⟩ : PcR)]).toArray 67) rfl fun g h0_g => ?_
    have hE_g := Ext.new h0_g (.cells (rowS pcC [(⟨n, List.replicate 240 z, B, bc⟩ : PcR)]).toArray 67)
    have hB_g := Heap.put_same F3 g (.cells (rowS pcC [(⟨n, List.replicate 240 z, B, bc⟩ : PcR)]).toArray 67)
    generalize F3.put g _ = F4 at hE_g hB_g ⊢
    have hM4 := hM3.mono hE_g
    have hrow := row_blk hB_g
    rw [List.toList_toArray] at hrow
    ((conv => whnf); repeat (first | (apply load_at; (conv => lhs; whnf); (with_reducible assumption); rfl; (conv => whnf)) | (apply load_at; (conv => lhs; rw [add_plain, add_plain]); (with_reducible assumption); rfl; (conv => whnf)) | (apply loads_at; (conv => lhs; whnf); (with_reducible assumption); rfl; (conv => whnf)) | (refine ⟨⟨by omega, by omega⟩, ?_⟩; (conv => whnf))))
    refine append_own tab_ok (s := S) (n := ps.length) (xs := rowS pcC ps) (m := 1) (ys := rowS pcC [(⟨n, List.replicate 240 z, B, bc⟩ : PcR)]) (y := .slice (some ⟨g, 0, none⟩) 1 1) rfl rfl rfl rfl rfl ⟨_, rfl, fun k h => by cases h⟩ ⟨_, rfl, rfl⟩ (by decide) hM4.own ⟨rfl, .inl ⟨_, _, rfl, hrow⟩⟩ (pc_one _) (by show 2 * (ps.length + 1) * 32 ≤ _; omega) fun S2 F5 hO5 hk5 hf5 => ?_
    have hM5 : Mine F1 F5 S2 67 2 (ps ++ [(⟨n, List.replicate 240 z, B, bc⟩ : PcR)]).length (rowS pcC (ps ++ [(⟨n, List.replicate 240 z, B, bc⟩ : PcR)])) := by
      rw [rowS_app, List.length_append]
      refine ⟨hO5, fun k hk => ?_, hk5.ext hM4.ext hM4.fresh⟩
      rcases hf5 k hk with h | h
      · exact hM4.fresh k h
      · exact hM4.ext.none h
    have hG4 : Ext (gain G F2 F3) F4 := hG3.trans hE_g
    have hP5 : PcsK F1 F5 S2 (ps ++ [(⟨n, List.replicate 240 z, B, bc⟩ : PcR)]) (gain G F2 F3) := by
      refine ⟨hk5.ext hG4 hG0, fun k hk => ?_, fun x hx => ?_, fun x hx a ha => ?_⟩
      · rcases hf5 k hk with h | h
        · exact hG0 k h
        · exact hG4.none h
      · rcases List.mem_append.1 hx with hx | hx
        · exact (hP.ok x hx).mono hGG
        · rw [List.mem_singleton] at hx
          subst hx
          exact ⟨rowAt_gain hbr hbf, by show (List.replicate 240 z).length ≤ 900000; rw [List.length_replicate]; omega⟩
      · rcases List.mem_append.1 hx with hx | hx
        · exact hP.new x hx a ha
        · rw [List.mem_singleton] at hx
          subst hx
          exact hM.ext.none (hbf a ha)
    ((conv => whnf); repeat (first | (apply load_at; (conv => lhs; whnf); (with_reducible assumption); rfl; (conv => whnf)) | (apply load_at; (conv => lhs; rw [add_plain, add_plain]); (with_reducible assumption); rfl; (conv => whnf)) | (apply loads_at; (conv => lhs; whnf); (with_reducible assumption); rfl; (conv => whnf)) | (refine ⟨⟨by omega, by omega⟩, ?_⟩; (conv => whnf))))
    refine ⟨k - 1, by omega, i + 1, S2, ps ++ [(⟨n, List.replicate 240 z, B, bc⟩ : PcR)], gain G F2 F3, by omega, by rw [List.length_append]; show ps.length + 1 = i + 1; omega, ?_, hM5, hP5, ?_⟩
    · rw [← wrap_succ (j := i) (by omega)]
      rfl
    · rw [hst, ← hrs]
      exact List.map_append
  · have hi : i = l.length := by
      have := of_decide_eq_false h
      omega
    subst hi
    rw [hfull] at hrs
    obtain ⟨B, c', rfl, _, hrow⟩ := hM.own.row
    ((conv => whnf); repeat (first | (apply load_at; (conv => lhs; whnf); (with_reducible assumption); rfl; (conv => whnf)) | (apply load_at; (conv => lhs; rw [add_plain, add_plain]); (with_reducible assumption); rfl; (conv => whnf)) | (apply loads_at; (conv => lhs; whnf); (with_reducible assumption); rfl; (conv => whnf)) | (refine ⟨⟨by omega, by omega⟩, ?_⟩; (conv => whnf))))
    exact ⟨⟨ps, B, c', rfl, hrow, fun a ha => hE_t.none (hM.fresh a.block (by rw [ha]; rfl)), fun p hp => ⟨(hP.ok p hp).mono hP.base, fun a ha => hE_t.none (hP.new p hp a ha)⟩, hrs⟩, hE_t.trans hM.ext⟩
end Go.Proofs.YtmpiggcooboenaaDoor.Al
/- RedoLives: two logs, each in its own part of memory. -/
namespace Go.Proofs.YtmpiggcooboenaaDoor.Al
open Go Go.Al Go.Proofs Go.RowKit
set_option maxHeartbeats 8000000
set_option maxRecDepth 100000
set_option linter.unusedVariables false
set_option linter.unusedSimpArgs false
structure Duo (F E X : Heap) : Prop where
  d : Ext E F
  x : Ext X F
  ap : Apart E X
section
variable {F F' E E' X X' D : Heap}
theorem Duo.onD (h : Duo F E X) (hM : Moves E F E' F') : Duo F' E' X ∧ Steps F E X F' E' X :=
  ⟨⟨hM.inn, hM.keep h.x h.ap, hM.apart h.x h.ap⟩, fun R h1 h2 h3 => ⟨hM.keep h1 h2, hM.apart h1 h2, h3⟩⟩
theorem Duo.onX (h : Duo F E X) (hM : Moves X F X' F') : Duo F' E X' ∧ Steps F E X F' E X' :=
  ⟨⟨hM.keep h.d h.ap.symm, hM.inn, (hM.apart h.d h.ap.symm).symm⟩, fun R h1 h2 h3 => ⟨hM.keep h1 h3, h2, hM.apart h1 h3⟩⟩
theorem Duo.ext (h : Duo F E X) (hE : Ext F F') : Duo F' E X ∧ Steps F E X F' E X :=
  ⟨⟨h.d.trans hE, h.x.trans hE, h.ap⟩, fun R h1 h2 h3 => ⟨h1.trans hE, h2, h3⟩⟩
theorem Duo.dropD (h : Duo F E X) (hE : Ext D E) : Duo F D X ∧ Steps F E X F D X :=
  ⟨⟨hE.trans h.d, h.x, h.ap.mono hE⟩, fun R h1 h2 h3 => ⟨h1, h2.mono hE, h3⟩⟩
theorem Duo.dropX (h : Duo F E X) (hE : Ext D X) : Duo F E D ∧ Steps F E X F E D :=
  ⟨⟨h.d, hE.trans h.x, (h.ap.symm.mono hE).symm⟩, fun R h1 h2 h3 => ⟨h1, h2, h3.mono hE⟩⟩
end
/-- A log that may not be there. -/
def LgS (E : Heap) (b : Nat) (s : DS) (v : Value) : Option Int → Prop
  | none => v = .pointer none ∧ Dk E b s
  | some q => ∃ lb, v = .pointer (some ⟨lb, 0, none⟩) ∧ Lg E lb b s q
def RgS (E : Heap) (b : Nat) (r : RS) (v : Value) : Option Int → Prop
  | none => v = .pointer none ∧ Rk E b r
  | some q => ∃ lb, v = .pointer (some ⟨lb, 0, none⟩) ∧ Rg E lb b r q
theorem LgS.disk {E : Heap} {b : Nat} {s : DS} {v : Value} {o : Option Int} (h : LgS E b s v o) : ∃ D, Dk D b s ∧ Ext D E ∧ ∀ {F F' D' : Heap} {s' : DS}, Ext E F → Moves D F D' F' → Dk D' b s' → ∃ E', Moves E F E' F' ∧ LgS E' b s' v o := by
  cases o with
  | none =>
    obtain ⟨rfl, h⟩ := h
    exact ⟨E, h, Ext.refl E, fun {F F' D' s'} _ hM hD => ⟨D', hM, rfl, hD⟩⟩
  | some q =>
    obtain ⟨lb, rfl, D, hD, hdl, rfl, h1, h2⟩ := h
    refine ⟨D, hD, (Ext.refl D).put hdl _, fun {F F' D' s'} hE hM hD' => ?_⟩
    obtain ⟨m1, m2⟩ := moves_withB hM hdl (hE _ _ (Heap.put_same _ _ _))
    exact ⟨_, m1, lb, rfl, D', hD', m2, rfl, h1, h2⟩
theorem RgS.disk {E : Heap} {b : Nat} {r : RS} {v : Value} {o : Option Int} (h : RgS E b r v o) : ∃ D, Rk D b r ∧ Ext D E ∧ ∀ {F F' D' : Heap} {r' : RS}, Ext E F → Moves D F D' F' → Rk D' b r' → ∃ E', Moves E F E' F' ∧ RgS E' b r' v o := by
  cases o with
  | none =>
    obtain ⟨rfl, h⟩ := h
    exact ⟨E, h, Ext.refl E, fun {F F' D' r'} _ hM hD => ⟨D', hM, rfl, hD⟩⟩
  | some q =>
    obtain ⟨lb, rfl, D, hD, hdl, rfl, h1, h2⟩ := h
    refine ⟨D, hD, (Ext.refl D).put hdl _, fun {F F' D' r'} hE hM hD' => ?_⟩
    obtain ⟨m1, m2⟩ := moves_withB hM hdl (hE _ _ (Heap.put_same _ _ _))
    exact ⟨_, m1, lb, rfl, D', hD', m2, rfl, h1, h2⟩
theorem openS_range {α : Type} (o : DOps α) (a : α) {q : Int} (h : (openS o a).2.2 = some q) : 0 ≤ q ∧ q ≤ 4611686018427387904 := by
  have hr := rdN_range o a
  unfold openS at h
  split at h
  · cases h
  split at h
  · split at h
    · cases h
    · cases h; exact hr.2
  · cases h; exact hr.2
theorem rgv_take {D F D' F' : Heap} {b lb : Nat} {r : RS} {q : Int} (hM : Moves D F D' F') (hD : Rk D' b r) (h1 : D lb = none → F lb = none) (h2 : D' lb = none) (h3 : F' lb = some (rgO b q)) (hq : 0 ≤ q ∧ q ≤ 4611686018427387904) :
    Moves D F (D'.put lb (rgO b q)) F' ∧ Rg (D'.put lb (rgO b q)) lb b r q := by
  refine ⟨⟨fun c u hc => ?_, hM.out, fun c hc => ?_⟩, D', hD, h2, rfl, hq⟩
  · by_cases e : c = lb
    · subst e; rw [Heap.put_same] at hc; rw [h3]; exact hc
    · rw [Heap.put_other _ _ e] at hc; exact hM.inn c u hc
  · by_cases e : c = lb
    · subst e
      cases e2 : D c with
      | none => exact .inr (h1 e2)
      | some o => exact .inl (by simp)
    · rw [Heap.put_other _ _ e] at hc; exact hM.new c hc
theorem onD {F E X : Heap} {b : Nat} {s s' : DS} {va w : Value} {o : Option Int} {f : Nat} {args : Array Value} (H : Duo F E X) (hL : LgS E b s va o) (hk : ∀ D, Dk D b s → Ext D F → Ext D E → FnK Tryd.prog f args F (fun v F' => v = w ∧ ∃ D', Moves D F D' F' ∧ Dk D' b s')) :
    FnK Tryd.prog f args F (fun v F' => v = w ∧ ∃ E', Duo F' E' X ∧ Steps F E X F' E' X ∧ LgS E' b s' va o) := by
  obtain ⟨D, hD, hDE, hu⟩ := hL.disk
  refine (hk D hD (hDE.trans H.d) hDE).mono ?_
  rintro v F' ⟨rfl, D', hM, hD'⟩
  obtain ⟨E', hM', hL'⟩ := hu H.d hM hD'
  exact ⟨rfl, E', (H.onD hM').1, (H.onD hM').2, hL'⟩
theorem onX {F E X : Heap} {b : Nat} {r r' : RS} {va w : Value} {o : Option Int} {f : Nat} {args : Array Value} (H : Duo F E X) (hL : RgS X b r va o) (hk : ∀ D, Rk D b r → Ext D F → Ext D X → FnK Tryd.prog f args F (fun v F' => v = w ∧ ∃ D', Moves D F D' F' ∧ Rk D' b r')) :
    FnK Tryd.prog f args F (fun v F' => v = w ∧ ∃ X', Duo F' E X' ∧ Steps F E X F' E X' ∧ RgS X' b r' va o) := by
  obtain ⟨D, hD, hDE, hu⟩ := hL.disk
  refine (hk D hD (hDE.trans H.x) hDE).mono ?_
  rintro v F' ⟨rfl, D', hM, hD'⟩
  obtain ⟨E', hM', hL'⟩ := hu H.x hM hD'
  exact ⟨rfl, E', (H.onX hM').1, (H.onX hM').2, hL'⟩
theorem open_s {F E X : Heap} {b : Nat} {s : DS} {va : Value} {o : Option Int} (H : Duo F E X) (hL : LgS E b s va o) (hN : NibAt F) (hw : s.writes + 40000 < 1000000000) :
    FnK Tryd.prog 18 #[.pointer (some ⟨b, 0, none⟩)] F (fun v F' => ∃ w E', v = .tuple #[w, .int .i64 (openS dsO s).2.1] ∧ Duo F' E' X ∧ Steps F E X F' E' X ∧ LgS E' b (openS dsO s).1 w (openS dsO s).2.2) := by
  obtain ⟨D, hD, hDE, _⟩ := hL.disk
  have hr := fun q => openS_range dsO s (q := q)
  refine (redoOpen (hDE.trans H.d) hD hN hw).mono ?_
  rintro v F' ⟨w, D', rfl, hM, hD', hV⟩
  obtain ⟨H1, T1⟩ := H.dropD hDE
  generalize (openS dsO s).2.2 = o' at hV hr ⊢
  cases o' with
  | none =>
    obtain rfl : w = .pointer none := hV
    obtain ⟨H2, T2⟩ := H1.onD hM
    exact ⟨_, D', rfl, H2, T1.trans T2, rfl, hD'⟩
  | some q =>
    obtain ⟨lb, rfl, h1, h2, h3⟩ := hV
    obtain ⟨m1, m2⟩ := lgv_take hM hD' h1 h2 h3 (hr q rfl)
    obtain ⟨H2, T2⟩ := H1.onD m1
    exact ⟨_, _, rfl, H2, T1.trans T2, lb, rfl, m2⟩
theorem ropen_s {F E X : Heap} {b : Nat} {r : RS} {va : Value} {o : Option Int} (H : Duo F E X) (hL : RgS X b r va o) (hw : r.done + 40000 < 1000000000) :
    FnK Tryd.prog 36 #[.pointer (some ⟨b, 0, none⟩)] F (fun v F' => ∃ w X', v = .tuple #[w, .int .i64 (openS rsO r).2.1] ∧ Duo F' E X' ∧ Steps F E X F' E X' ∧ RgS X' b (openS rsO r).1 w (openS rsO r).2.2) := by
  obtain ⟨D, hD, hDE, _⟩ := hL.disk
  have hr := fun q => openS_range rsO r (q := q)
  refine (rgOpen (hDE.trans H.x) hD hw).mono ?_
  rintro v F' ⟨w, D', rfl, hM, hD', hV⟩
  obtain ⟨H1, T1⟩ := H.dropX hDE
  generalize (openS rsO r).2.2 = o' at hV hr ⊢
  cases o' with
  | none =>
    obtain rfl : w = .pointer none := hV
    obtain ⟨H2, T2⟩ := H1.onX hM
    exact ⟨_, D', rfl, H2, T1.trans T2, rfl, hD'⟩
  | some q =>
    obtain ⟨lb, rfl, h1, h2, h3⟩ := hV
    obtain ⟨m1, m2⟩ := rgv_take hM hD' h1 h2 h3 (hr q rfl)
    obtain ⟨H2, T2⟩ := H1.onX m1
    exact ⟨_, _, rfl, H2, T1.trans T2, lb, rfl, m2⟩
theorem Rg.disk {E : Heap} {lb b : Nat} {r : RS} {q : Int} (h : Rg E lb b r q) : ∃ D, Rk D b r ∧ Ext D E ∧ E lb = some (rgO b q) := by
  obtain ⟨D, h1, h2, rfl, _⟩ := h
  exact ⟨D, h1, (Ext.refl D).put h2 _, Heap.put_same _ _ _⟩
end Go.Proofs.YtmpiggcooboenaaDoor.Al

/- The reference's disks: Crash, over what is known of memory (printed by mkrcrash.py). -/
import Derived.Test.YtlkdbmoocajjlaaDskJ
namespace Go.Proofs.Ytlkdbmoocajjlaa.Al
open Go Go.Al Go.Proofs Go.RowKit
set_option maxHeartbeats 8000000
set_option maxRecDepth 100000
set_option linter.unusedVariables false
set_option linter.unusedSimpArgs false
def cr (keep : List Int) (o : OD) : OD := if o.t > 0 ∧ o.t - 1 ∈ keep then ⟨o.l, o.l, 0⟩ else ⟨o.s, o.s, 0⟩
def crR (keep : List Int) (o : OR) : OR := if o.t > 0 ∧ o.t - 1 ∈ keep then ⟨o.l, o.l, 0, o.lA, o.lc, o.lA, o.lc⟩ else ⟨o.s, o.s, 0, o.sA, o.sc, o.sA, o.sc⟩
theorem cr_od (keep : List Int) (o : OR) : od (crR keep o) = cr keep (od o) := by
  unfold crR cr
  by_cases h : o.t > 0 ∧ o.t - 1 ∈ keep
  · rw [if_pos h, if_pos (show (od o).t > 0 ∧ (od o).t - 1 ∈ keep from h)]; rfl
  · rw [if_neg h, if_neg (show ¬ ((od o).t > 0 ∧ (od o).t - 1 ∈ keep) from h)]; rfl
theorem crR_ok {G : Heap} {o : OR} (h : OrOk G o) (keep : List Int) : OrOk G (crR keep o) := by
  unfold crR
  split
  · exact ⟨h.l, h.l, h.lc, h.lc, h.ln, h.ln⟩
  · exact ⟨h.s, h.s, h.sc, h.sc, h.sn, h.sn⟩
def rcrashS (r : RS) (keep : List Int) : RS := ⟨r.L.map (cr keep), 0, r.done, 0, false, false⟩
theorem rcrash_wf {r : RS} (h : RWf r) (keep : List Int) : RWf (rcrashS r keep) := by
  have h1 := h.turn
  refine ⟨by show 3 ≤ (r.L.map (cr keep)).length ∧ (r.L.map (cr keep)).length ≤ 65536; rw [List.length_map]; exact h.len, ⟨(by decide : (0 : Int) ≤ 0), (by omega : 0 ≤ r.done)⟩, h.done, ⟨(by decide : (0 : Int) ≤ 0), (by decide : (0 : Int) ≤ 9223372036854775807)⟩, fun o ho => ?_⟩
  obtain ⟨x, hx, rfl⟩ := List.mem_map.1 ho
  unfold cr
  split <;> exact ⟨(by decide : (0 : Int) ≤ 0), (by decide : (0 : Int) ≤ 0)⟩
theorem rcrash {D F R : Heap} {b : Nat} {r : RS} (hE : Ext D F) (hD : Rk D b r) (hR : Ext R F) (hA : Apart D R) (keep : List Int) (A : Option Addr) (c : Nat) (hr : RowAt R A (keep.map (.int .i64))) (hl : keep.length ≤ 900000) :
    FnK Try.prog 41 #[.pointer (some ⟨b, 0, none⟩), .slice A keep.length c] F (fun v F' => v = .tuple #[] ∧ ∃ D', Moves D F D' F' ∧ Rk D' b (rcrashS r keep)) := by
  obtain ⟨hwf, q, os, G, hP⟩ := hD
  have hb := hE _ _ hP.cell
  have hlen : r.L.length = os.length := by rw [hP.L, List.length_map]
  have hle := hwf.len
  have hts : ∀ o ∈ os, 0 ≤ o.t ∧ o.t ≤ 1000000000 := fun o ho => by
    have h1 := hwf.ts (od o) (by rw [hP.L]; exact List.mem_map_of_mem ho)
    have h2 := hwf.turn
    have h3 := hwf.done
    exact ⟨h1.1, by have := h1.2; show (od o).t ≤ _; omega⟩
  (refine fn_walk tab_ok Try.func41 rfl rfl rfl rfl ?_; (conv => whnf))
  ((conv => whnf); repeat (first | (apply load_at; (conv => lhs; whnf); (with_reducible assumption); rfl; (conv => whnf)) | (apply load_at; (conv => lhs; rw [add_plain, add_plain]); (with_reducible assumption); rfl; (conv => whnf)) | (apply loads_at; (conv => lhs; whnf); (with_reducible assumption); rfl; (conv => whnf)) | (refine ⟨⟨by omega, by omega⟩, ?_⟩; (conv => whnf))))
  refine loop_slots [0, 1, 4] (fun k vs F' => ∃ (j : Nat) (D' : Heap), j + k = os.length ∧ vs = [.pointer (some ⟨b, 0, none⟩), .slice A keep.length c, .int .i64 (j : Int)] ∧ Moves D F D' F' ∧ RkP D' b q (mixL (crR keep) j os) G ⟨(mixL (crR keep) j os).map od, r.turn, r.done, r.arm, r.armed, r.down⟩) os.length ⟨0, D, by omega, rfl, Moves.refl hE, by rw [mixL_zero, ← hP.L]; exact hP⟩ ?_
  rintro k vs F2 ρ ⟨j, D2, hjk, rfl, M2, P2⟩
  have hb2 : F2 b = some (rdO (.slice (some ⟨q, 0, none⟩) os.length os.length) r.turn r.done r.arm r.armed r.down) := by have := M2.inn _ _ P2.cell; rw [mixL_len] at this; exact this
  have hq2 := M2.inn _ _ P2.row
  have hrF := hr.mono (M2.keep hR hA)
  ((conv => whnf); repeat (first | (apply load_at; (conv => lhs; whnf); (with_reducible assumption); rfl; (conv => whnf)) | (apply load_at; (conv => lhs; rw [add_plain, add_plain]); (with_reducible assumption); rfl; (conv => whnf)) | (apply loads_at; (conv => lhs; whnf); (with_reducible assumption); rfl; (conv => whnf)) | (refine ⟨⟨by omega, by omega⟩, ?_⟩; (conv => whnf))))
  refine cond_split (fun h => ?_) (fun h => ?_)
  · have hj : j < os.length := by have := of_decide_eq_true h; omega
    obtain ⟨o, ho⟩ : ∃ o, os[j]? = some o := ⟨_, List.getElem?_eq_getElem hj⟩
    have hok := hP.ok o (List.mem_of_getElem? ho)
    have hot := hts o (List.mem_of_getElem? ho)
    have ho2 : (mixL (crR keep) j os)[j]? = some o := by rw [mixL_get (crR keep) hj]; exact ho
    have hj2 : j < (mixL (crR keep) j os).length := by rw [mixL_len]; exact hj
    have hws : IntKind.i64.wrap ((j : Int) + 1) = ((j + 1 : Nat) : Int) := wrap_succ (by omega)
    have htw : IntKind.i64.wrap (o.t - 1) = o.t - 1 := wrap_eq (by omega) (by omega)
    ((conv => whnf); repeat (first | (apply load_at; (conv => lhs; whnf); (with_reducible assumption); rfl; (conv => whnf)) | (apply load_at; (conv => lhs; rw [add_plain, add_plain]); (with_reducible assumption); rfl; (conv => whnf)) | (apply loads_at; (conv => lhs; whnf); (with_reducible assumption); rfl; (conv => whnf)) | (refine ⟨⟨by omega, by omega⟩, ?_⟩; (conv => whnf))))
    refine load_at (ad3 q j 2) hq2 (os_get ho2 rfl) ?_
    ((conv => whnf); repeat (first | (apply load_at; (conv => lhs; whnf); (with_reducible assumption); rfl; (conv => whnf)) | (apply load_at; (conv => lhs; rw [add_plain, add_plain]); (with_reducible assumption); rfl; (conv => whnf)) | (apply loads_at; (conv => lhs; whnf); (with_reducible assumption); rfl; (conv => whnf)) | (refine ⟨⟨by omega, by omega⟩, ?_⟩; (conv => whnf))))
    refine cond_split (fun h => ?_) (fun h => ?_)
    · have h : decide (o.t > 0) = true := h
      have ht : o.t > 0 := of_decide_eq_true h
      (conv => whnf)
      have hh : FnK Try.prog 71 #[.slice A keep.length c, .int .i64 (IntKind.i64.wrap (o.t - 1))] F2 (fun v F' => v = .bool (decide (o.t - 1 ∈ keep)) ∧ F' = F2) := by rw [htw]; exact rhas keep (o.t - 1) A c F2 hrF hl
      refine call_of hh ?_
      rintro v F3 ⟨rfl, rfl⟩
      ((conv => whnf); repeat (first | (apply load_at; (conv => lhs; whnf); (with_reducible assumption); rfl; (conv => whnf)) | (apply load_at; (conv => lhs; rw [add_plain, add_plain]); (with_reducible assumption); rfl; (conv => whnf)) | (apply loads_at; (conv => lhs; whnf); (with_reducible assumption); rfl; (conv => whnf)) | (refine ⟨⟨by omega, by omega⟩, ?_⟩; (conv => whnf))))
      refine cond_split (fun h => ?_) (fun h => ?_)
      · have hk : o.t - 1 ∈ keep := of_decide_eq_true h
        refine short [0, 1, 4] [.pointer (some ⟨b, 0, none⟩), .slice A keep.length c, .int .i64 (j : Int)] rfl fun ρ => ?_
        (conv => whnf)
        refine draw_walk tab_ok (by kernel_rfl) [0, 1, 2, 3, 4, 5, 6, 7, 8, 9, 10, 11, 12, 13, 14, 15] (by kernel_rfl) ?_
        ((conv => whnf); repeat (first | (apply load_at; (conv => lhs; whnf); (with_reducible assumption); rfl; (conv => whnf)) | (apply load_at; (conv => lhs; rw [add_plain, add_plain]); (with_reducible assumption); rfl; (conv => whnf)) | (apply loads_at; (conv => lhs; whnf); (with_reducible assumption); rfl; (conv => whnf)) | (refine ⟨⟨by omega, by omega⟩, ?_⟩; (conv => whnf))))
        refine load_at (ad3 q j 1) hq2 (os_get ho2 rfl) ?_
        ((conv => whnf); repeat (first | (apply load_at; (conv => lhs; whnf); (with_reducible assumption); rfl; (conv => whnf)) | (apply load_at; (conv => lhs; rw [add_plain, add_plain]); (with_reducible assumption); rfl; (conv => whnf)) | (apply loads_at; (conv => lhs; whnf); (with_reducible assumption); rfl; (conv => whnf)) | (refine ⟨⟨by omega, by omega⟩, ?_⟩; (conv => whnf))))
        refine store_step q (j * 3 + 0) _ (rowS orC ((mixL (crR keep) j os).set j { o with s := o.l, sA := o.lA, sc := o.lc })).toArray (ad3 q j 0) hq2 (os_put ho2 (by decide) rfl) (os_in hj2 (by decide)) (.inl (Nat.le_refl 0)) (one_slice _ _ _) ?_
        have M3 := M2.trans (Moves.put M2.inn (.inl (by rw [P2.row]; simp)) (osO ((mixL (crR keep) j os).set j { o with s := o.l, sA := o.lA, sc := o.lc })))
        have P3 := P2.setM j { o with s := o.l, sA := o.lA, sc := o.lc } ⟨hok.l, hok.l, hok.lc, hok.lc, hok.ln, hok.ln⟩
        have hb3 : F3.put q (osO ((mixL (crR keep) j os).set j { o with s := o.l, sA := o.lA, sc := o.lc })) b = some (rdO (.slice (some ⟨q, 0, none⟩) os.length os.length) r.turn r.done r.arm r.armed r.down) := by rw [Heap.put_other _ _ hP.bq]; exact hb2
        have hq3 := M3.inn _ _ P3.row
        generalize F3.put q _ = F4 at M3 hb3 hq3 ⊢
        generalize D2.put q _ = D3 at M3 P3
        have ho3 : ((mixL (crR keep) j os).set j { o with s := o.l, sA := o.lA, sc := o.lc })[j]? = some { o with s := o.l, sA := o.lA, sc := o.lc } := by rw [List.getElem?_set_self hj2]
        have hj3 : j < ((mixL (crR keep) j os).set j { o with s := o.l, sA := o.lA, sc := o.lc }).length := by rw [List.length_set]; exact hj2
        have hf : crR keep o = { o with s := o.l, sA := o.lA, sc := o.lc, l := o.l, lA := o.lA, lc := o.lc, t := 0 } := by unfold crR; rw [if_pos ⟨ht, hk⟩]
        refine short [0, 1, 4] [.pointer (some ⟨b, 0, none⟩), .slice A keep.length c, .int .i64 (j : Int)] rfl fun ρ => ?_
        (conv => whnf)
        refine draw_walk tab_ok (by kernel_rfl) [0, 1, 2, 3, 4, 5, 6, 7, 8, 9, 10, 11, 12, 13, 14, 15, 16, 17, 18, 19, 20, 21, 22, 23] (by kernel_rfl) ?_
        ((conv => whnf); repeat (first | (apply load_at; (conv => lhs; whnf); (with_reducible assumption); rfl; (conv => whnf)) | (apply load_at; (conv => lhs; rw [add_plain, add_plain]); (with_reducible assumption); rfl; (conv => whnf)) | (apply loads_at; (conv => lhs; whnf); (with_reducible assumption); rfl; (conv => whnf)) | (refine ⟨⟨by omega, by omega⟩, ?_⟩; (conv => whnf))))
        refine load_at (ad3 q j 0) hq3 (os_get ho3 rfl) ?_
        ((conv => whnf); repeat (first | (apply load_at; (conv => lhs; whnf); (with_reducible assumption); rfl; (conv => whnf)) | (apply load_at; (conv => lhs; rw [add_plain, add_plain]); (with_reducible assumption); rfl; (conv => whnf)) | (apply loads_at; (conv => lhs; whnf); (with_reducible assumption); rfl; (conv => whnf)) | (refine ⟨⟨by omega, by omega⟩, ?_⟩; (conv => whnf))))
        refine store_step q (j * 3 + 1) _ (rowS orC (((mixL (crR keep) j os).set j { o with s := o.l, sA := o.lA, sc := o.lc }).set j { ({ o with s := o.l, sA := o.lA, sc := o.lc } : OR) with l := ({ o with s := o.l, sA := o.lA, sc := o.lc } : OR).s, lA := ({ o with s := o.l, sA := o.lA, sc := o.lc } : OR).sA, lc := ({ o with s := o.l, sA := o.lA, sc := o.lc } : OR).sc })).toArray (ad3 q j 1) hq3 (os_put ho3 (by decide) rfl) (os_in hj3 (by decide)) (.inl (Nat.le_refl 0)) (one_slice _ _ _) ?_
        have okx := P3.ok _ (List.mem_of_getElem? ho3)
        have M7 := M3.trans (Moves.put M3.inn (.inl (by rw [P3.row]; simp)) (osO (((mixL (crR keep) j os).set j { o with s := o.l, sA := o.lA, sc := o.lc }).set j { ({ o with s := o.l, sA := o.lA, sc := o.lc } : OR) with l := ({ o with s := o.l, sA := o.lA, sc := o.lc } : OR).s, lA := ({ o with s := o.l, sA := o.lA, sc := o.lc } : OR).sA, lc := ({ o with s := o.l, sA := o.lA, sc := o.lc } : OR).sc })))
        have P7 := P3.setM j { ({ o with s := o.l, sA := o.lA, sc := o.lc } : OR) with l := ({ o with s := o.l, sA := o.lA, sc := o.lc } : OR).s, lA := ({ o with s := o.l, sA := o.lA, sc := o.lc } : OR).sA, lc := ({ o with s := o.l, sA := o.lA, sc := o.lc } : OR).sc } ⟨okx.s, okx.s, okx.sc, okx.sc, okx.sn, okx.sn⟩
        have hq7 := M7.inn _ _ P7.row
        generalize F4.put q _ = F7 at M7 hq7 ⊢
        generalize D3.put q _ = D7 at M7 P7
        have ho7 : (((mixL (crR keep) j os).set j { o with s := o.l, sA := o.lA, sc := o.lc }).set j { ({ o with s := o.l, sA := o.lA, sc := o.lc } : OR) with l := ({ o with s := o.l, sA := o.lA, sc := o.lc } : OR).s, lA := ({ o with s := o.l, sA := o.lA, sc := o.lc } : OR).sA, lc := ({ o with s := o.l, sA := o.lA, sc := o.lc } : OR).sc })[j]? = some { ({ o with s := o.l, sA := o.lA, sc := o.lc } : OR) with l := ({ o with s := o.l, sA := o.lA, sc := o.lc } : OR).s, lA := ({ o with s := o.l, sA := o.lA, sc := o.lc } : OR).sA, lc := ({ o with s := o.l, sA := o.lA, sc := o.lc } : OR).sc } := by rw [List.getElem?_set_self hj3]
        have hj7 : j < (((mixL (crR keep) j os).set j { o with s := o.l, sA := o.lA, sc := o.lc }).set j { ({ o with s := o.l, sA := o.lA, sc := o.lc } : OR) with l := ({ o with s := o.l, sA := o.lA, sc := o.lc } : OR).s, lA := ({ o with s := o.l, sA := o.lA, sc := o.lc } : OR).sA, lc := ({ o with s := o.l, sA := o.lA, sc := o.lc } : OR).sc }).length := by rw [List.length_set]; exact hj3
        ((conv => whnf); repeat (first | (apply load_at; (conv => lhs; whnf); (with_reducible assumption); rfl; (conv => whnf)) | (apply load_at; (conv => lhs; rw [add_plain, add_plain]); (with_reducible assumption); rfl; (conv => whnf)) | (apply loads_at; (conv => lhs; whnf); (with_reducible assumption); rfl; (conv => whnf)) | (refine ⟨⟨by omega, by omega⟩, ?_⟩; (conv => whnf))))
        refine store_step q (j * 3 + 2) _ (rowS orC ((((mixL (crR keep) j os).set j { o with s := o.l, sA := o.lA, sc := o.lc }).set j { ({ o with s := o.l, sA := o.lA, sc := o.lc } : OR) with l := ({ o with s := o.l, sA := o.lA, sc := o.lc } : OR).s, lA := ({ o with s := o.l, sA := o.lA, sc := o.lc } : OR).sA, lc := ({ o with s := o.l, sA := o.lA, sc := o.lc } : OR).sc }).set j (crR keep o))).toArray (ad3 q j 2) hq7 (os_put ho7 (by decide) (by rw [hf]; rfl)) (os_in hj7 (by decide)) (.inl (Nat.le_refl 0)) (one_int _ _) ?_
        have M8 := M7.trans (Moves.put M7.inn (.inl (by rw [P7.row]; simp)) (osO ((((mixL (crR keep) j os).set j { o with s := o.l, sA := o.lA, sc := o.lc }).set j { ({ o with s := o.l, sA := o.lA, sc := o.lc } : OR) with l := ({ o with s := o.l, sA := o.lA, sc := o.lc } : OR).s, lA := ({ o with s := o.l, sA := o.lA, sc := o.lc } : OR).sA, lc := ({ o with s := o.l, sA := o.lA, sc := o.lc } : OR).sc }).set j (crR keep o))))
        have P8 := P7.setM j (crR keep o) (crR_ok hok keep)
        generalize F7.put q _ = F8 at M8 ⊢
        generalize D7.put q _ = D8 at M8 P8
        rw [List.set_set, List.set_set, mixL_set (crR keep) ho] at P8
        ((conv => whnf); repeat (first | (apply load_at; (conv => lhs; whnf); (with_reducible assumption); rfl; (conv => whnf)) | (apply load_at; (conv => lhs; rw [add_plain, add_plain]); (with_reducible assumption); rfl; (conv => whnf)) | (apply loads_at; (conv => lhs; whnf); (with_reducible assumption); rfl; (conv => whnf)) | (refine ⟨⟨by omega, by omega⟩, ?_⟩; (conv => whnf))))
        refine ⟨k - 1, by omega, j + 1, D8, by omega, ?_, M8, P8⟩
        rw [← hws]
        rfl
      · have hk : ¬ o.t - 1 ∈ keep := of_decide_eq_false h
        have hf : crR keep o = { o with l := o.s, lA := o.sA, lc := o.sc, t := 0 } := by unfold crR; rw [if_neg (fun e => hk e.2)]
        refine short [0, 1, 4] [.pointer (some ⟨b, 0, none⟩), .slice A keep.length c, .int .i64 (j : Int)] rfl fun ρ => ?_
        (conv => whnf)
        refine draw_walk tab_ok (by kernel_rfl) [0, 1, 2, 3, 4, 5, 6, 7, 8, 9, 10, 11, 12, 13, 14, 15, 16, 17, 18, 19, 20, 21, 22, 23] (by kernel_rfl) ?_
        ((conv => whnf); repeat (first | (apply load_at; (conv => lhs; whnf); (with_reducible assumption); rfl; (conv => whnf)) | (apply load_at; (conv => lhs; rw [add_plain, add_plain]); (with_reducible assumption); rfl; (conv => whnf)) | (apply loads_at; (conv => lhs; whnf); (with_reducible assumption); rfl; (conv => whnf)) | (refine ⟨⟨by omega, by omega⟩, ?_⟩; (conv => whnf))))
        refine load_at (ad3 q j 0) hq2 (os_get ho2 rfl) ?_
        ((conv => whnf); repeat (first | (apply load_at; (conv => lhs; whnf); (with_reducible assumption); rfl; (conv => whnf)) | (apply load_at; (conv => lhs; rw [add_plain, add_plain]); (with_reducible assumption); rfl; (conv => whnf)) | (apply loads_at; (conv => lhs; whnf); (with_reducible assumption); rfl; (conv => whnf)) | (refine ⟨⟨by omega, by omega⟩, ?_⟩; (conv => whnf))))
        refine store_step q (j * 3 + 1) _ (rowS orC ((mixL (crR keep) j os).set j { o with l := o.s, lA := o.sA, lc := o.sc })).toArray (ad3 q j 1) hq2 (os_put ho2 (by decide) rfl) (os_in hj2 (by decide)) (.inl (Nat.le_refl 0)) (one_slice _ _ _) ?_
        have okx := P2.ok _ (List.mem_of_getElem? ho2)
        have M7 := M2.trans (Moves.put M2.inn (.inl (by rw [P2.row]; simp)) (osO ((mixL (crR keep) j os).set j { o with l := o.s, lA := o.sA, lc := o.sc })))
        have P7 := P2.setM j { o with l := o.s, lA := o.sA, lc := o.sc } ⟨okx.s, okx.s, okx.sc, okx.sc, okx.sn, okx.sn⟩
        have hq7 := M7.inn _ _ P7.row
        generalize F3.put q _ = F7 at M7 hq7 ⊢
        generalize D2.put q _ = D7 at M7 P7
        have ho7 : ((mixL (crR keep) j os).set j { o with l := o.s, lA := o.sA, lc := o.sc })[j]? = some { o with l := o.s, lA := o.sA, lc := o.sc } := by rw [List.getElem?_set_self hj2]
        have hj7 : j < ((mixL (crR keep) j os).set j { o with l := o.s, lA := o.sA, lc := o.sc }).length := by rw [List.length_set]; exact hj2
        ((conv => whnf); repeat (first | (apply load_at; (conv => lhs; whnf); (with_reducible assumption); rfl; (conv => whnf)) | (apply load_at; (conv => lhs; rw [add_plain, add_plain]); (with_reducible assumption); rfl; (conv => whnf)) | (apply loads_at; (conv => lhs; whnf); (with_reducible assumption); rfl; (conv => whnf)) | (refine ⟨⟨by omega, by omega⟩, ?_⟩; (conv => whnf))))
        refine store_step q (j * 3 + 2) _ (rowS orC (((mixL (crR keep) j os).set j { o with l := o.s, lA := o.sA, lc := o.sc }).set j (crR keep o))).toArray (ad3 q j 2) hq7 (os_put ho7 (by decide) (by rw [hf]; rfl)) (os_in hj7 (by decide)) (.inl (Nat.le_refl 0)) (one_int _ _) ?_
        have M8 := M7.trans (Moves.put M7.inn (.inl (by rw [P7.row]; simp)) (osO (((mixL (crR keep) j os).set j { o with l := o.s, lA := o.sA, lc := o.sc }).set j (crR keep o))))
        have P8 := P7.setM j (crR keep o) (crR_ok hok keep)
        generalize F7.put q _ = F8 at M8 ⊢
        generalize D7.put q _ = D8 at M8 P8
        rw [List.set_set, mixL_set (crR keep) ho] at P8
        ((conv => whnf); repeat (first | (apply load_at; (conv => lhs; whnf); (with_reducible assumption); rfl; (conv => whnf)) | (apply load_at; (conv => lhs; rw [add_plain, add_plain]); (with_reducible assumption); rfl; (conv => whnf)) | (apply loads_at; (conv => lhs; whnf); (with_reducible assumption); rfl; (conv => whnf)) | (refine ⟨⟨by omega, by omega⟩, ?_⟩; (conv => whnf))))
        refine ⟨k - 1, by omega, j + 1, D8, by omega, ?_, M8, P8⟩
        rw [← hws]
        rfl
    · have h : decide (o.t > 0) = false := h
      have ht : ¬ o.t > 0 := of_decide_eq_false h
      have hf : crR keep o = { o with l := o.s, lA := o.sA, lc := o.sc, t := 0 } := by unfold crR; rw [if_neg (fun e => ht e.1)]
      (conv => whnf)
      refine draw_walk tab_ok (by kernel_rfl) [0, 1, 2, 3, 4, 5, 6, 7, 8, 9, 10, 11, 12, 13, 14, 15, 16, 17, 18, 19, 20, 21, 22, 23] (by kernel_rfl) ?_
      ((conv => whnf); repeat (first | (apply load_at; (conv => lhs; whnf); (with_reducible assumption); rfl; (conv => whnf)) | (apply load_at; (conv => lhs; rw [add_plain, add_plain]); (with_reducible assumption); rfl; (conv => whnf)) | (apply loads_at; (conv => lhs; whnf); (with_reducible assumption); rfl; (conv => whnf)) | (refine ⟨⟨by omega, by omega⟩, ?_⟩; (conv => whnf))))
      refine load_at (ad3 q j 0) hq2 (os_get ho2 rfl) ?_
      ((conv => whnf); repeat (first | (apply load_at; (conv => lhs; whnf); (with_reducible assumption); rfl; (conv => whnf)) | (apply load_at; (conv => lhs; rw [add_plain, add_plain]); (with_reducible assumption); rfl; (conv => whnf)) | (apply loads_at; (conv => lhs; whnf); (with_reducible assumption); rfl; (conv => whnf)) | (refine ⟨⟨by omega, by omega⟩, ?_⟩; (conv => whnf))))
      refine store_step q (j * 3 + 1) _ (rowS orC ((mixL (crR keep) j os).set j { o with l := o.s, lA := o.sA, lc := o.sc })).toArray (ad3 q j 1) hq2 (os_put ho2 (by decide) rfl) (os_in hj2 (by decide)) (.inl (Nat.le_refl 0)) (one_slice _ _ _) ?_
      have okx := P2.ok _ (List.mem_of_getElem? ho2)
      have M7 := M2.trans (Moves.put M2.inn (.inl (by rw [P2.row]; simp)) (osO ((mixL (crR keep) j os).set j { o with l := o.s, lA := o.sA, lc := o.sc })))
      have P7 := P2.setM j { o with l := o.s, lA := o.sA, lc := o.sc } ⟨okx.s, okx.s, okx.sc, okx.sc, okx.sn, okx.sn⟩
      have hq7 := M7.inn _ _ P7.row
      generalize F2.put q _ = F7 at M7 hq7 ⊢
      generalize D2.put q _ = D7 at M7 P7
      have ho7 : ((mixL (crR keep) j os).set j { o with l := o.s, lA := o.sA, lc := o.sc })[j]? = some { o with l := o.s, lA := o.sA, lc := o.sc } := by rw [List.getElem?_set_self hj2]
      have hj7 : j < ((mixL (crR keep) j os).set j { o with l := o.s, lA := o.sA, lc := o.sc }).length := by rw [List.length_set]; exact hj2
      ((conv => whnf); repeat (first | (apply load_at; (conv => lhs; whnf); (with_reducible assumption); rfl; (conv => whnf)) | (apply load_at; (conv => lhs; rw [add_plain, add_plain]); (with_reducible assumption); rfl; (conv => whnf)) | (apply loads_at; (conv => lhs; whnf); (with_reducible assumption); rfl; (conv => whnf)) | (refine ⟨⟨by omega, by omega⟩, ?_⟩; (conv => whnf))))
      refine store_step q (j * 3 + 2) _ (rowS orC (((mixL (crR keep) j os).set j { o with l := o.s, lA := o.sA, lc := o.sc }).set j (crR keep o))).toArray (ad3 q j 2) hq7 (os_put ho7 (by decide) (by rw [hf]; rfl)) (os_in hj7 (by decide)) (.inl (Nat.le_refl 0)) (one_int _ _) ?_
      have M8 := M7.trans (Moves.put M7.inn (.inl (by rw [P7.row]; simp)) (osO (((mixL (crR keep) j os).set j { o with l := o.s, lA := o.sA, lc := o.sc }).set j (crR keep o))))
      have P8 := P7.setM j (crR keep o) (crR_ok hok keep)
      generalize F7.put q _ = F8 at M8 ⊢
      generalize D7.put q _ = D8 at M8 P8
      rw [List.set_set, mixL_set (crR keep) ho] at P8
      ((conv => whnf); repeat (first | (apply load_at; (conv => lhs; whnf); (with_reducible assumption); rfl; (conv => whnf)) | (apply load_at; (conv => lhs; rw [add_plain, add_plain]); (with_reducible assumption); rfl; (conv => whnf)) | (apply loads_at; (conv => lhs; whnf); (with_reducible assumption); rfl; (conv => whnf)) | (refine ⟨⟨by omega, by omega⟩, ?_⟩; (conv => whnf))))
      refine ⟨k - 1, by omega, j + 1, D8, by omega, ?_, M8, P8⟩
      rw [← hws]
      rfl
  · have hj : j = os.length := by have := of_decide_eq_false h; omega
    subst hj
    rw [mixL_all] at P2
    have e : ((os.map (crR keep)).map od) = r.L.map (cr keep) := by rw [hP.L, List.map_map, List.map_map]; exact List.map_congr_left fun o _ => cr_od keep o
    have P5 := P2.nums 0 r.done 0 false false
    rw [List.length_map] at P5
    ((conv => whnf); repeat (first | (apply load_at; (conv => lhs; whnf); (with_reducible assumption); rfl; (conv => whnf)) | (apply load_at; (conv => lhs; rw [add_plain, add_plain]); (with_reducible assumption); rfl; (conv => whnf)) | (apply loads_at; (conv => lhs; whnf); (with_reducible assumption); rfl; (conv => whnf)) | (refine ⟨⟨by omega, by omega⟩, ?_⟩; (conv => whnf))))
    refine store_step b 1 _ (rdC (.slice (some ⟨q, 0, none⟩) os.length os.length) 0 r.done r.arm r.armed r.down) rfl hb2 rfl rfl (.inl (Nat.le_refl 0)) (one_int _ _) ?_
    have hb3 := Heap.put_same F2 b (rdO (.slice (some ⟨q, 0, none⟩) os.length os.length) 0 r.done r.arm r.armed r.down)
    ((conv => whnf); repeat (first | (apply load_at; (conv => lhs; whnf); (with_reducible assumption); rfl; (conv => whnf)) | (apply load_at; (conv => lhs; rw [add_plain, add_plain]); (with_reducible assumption); rfl; (conv => whnf)) | (apply loads_at; (conv => lhs; whnf); (with_reducible assumption); rfl; (conv => whnf)) | (refine ⟨⟨by omega, by omega⟩, ?_⟩; (conv => whnf))))
    refine store_step b 5 _ (rdC (.slice (some ⟨q, 0, none⟩) os.length os.length) 0 r.done r.arm r.armed false) rfl hb3 rfl rfl (.inl (Nat.le_refl 0)) (one_bool _) ?_
    rw [Heap.put_put]
    have hb4 := Heap.put_same F2 b (rdO (.slice (some ⟨q, 0, none⟩) os.length os.length) 0 r.done r.arm r.armed false)
    ((conv => whnf); repeat (first | (apply load_at; (conv => lhs; whnf); (with_reducible assumption); rfl; (conv => whnf)) | (apply load_at; (conv => lhs; rw [add_plain, add_plain]); (with_reducible assumption); rfl; (conv => whnf)) | (apply loads_at; (conv => lhs; whnf); (with_reducible assumption); rfl; (conv => whnf)) | (refine ⟨⟨by omega, by omega⟩, ?_⟩; (conv => whnf))))
    refine store_step b 4 _ (rdC (.slice (some ⟨q, 0, none⟩) os.length os.length) 0 r.done r.arm false false) rfl hb4 rfl rfl (.inl (Nat.le_refl 0)) (one_bool _) ?_
    rw [Heap.put_put]
    have hb5 := Heap.put_same F2 b (rdO (.slice (some ⟨q, 0, none⟩) os.length os.length) 0 r.done r.arm false false)
    ((conv => whnf); repeat (first | (apply load_at; (conv => lhs; whnf); (with_reducible assumption); rfl; (conv => whnf)) | (apply load_at; (conv => lhs; rw [add_plain, add_plain]); (with_reducible assumption); rfl; (conv => whnf)) | (apply loads_at; (conv => lhs; whnf); (with_reducible assumption); rfl; (conv => whnf)) | (refine ⟨⟨by omega, by omega⟩, ?_⟩; (conv => whnf))))
    refine store_step b 3 _ (rdC (.slice (some ⟨q, 0, none⟩) os.length os.length) 0 r.done 0 false false) rfl hb5 rfl rfl (.inl (Nat.le_refl 0)) (one_int _ _) ?_
    rw [Heap.put_put]
    ((conv => whnf); repeat (first | (apply load_at; (conv => lhs; whnf); (with_reducible assumption); rfl; (conv => whnf)) | (apply load_at; (conv => lhs; rw [add_plain, add_plain]); (with_reducible assumption); rfl; (conv => whnf)) | (apply loads_at; (conv => lhs; whnf); (with_reducible assumption); rfl; (conv => whnf)) | (refine ⟨⟨by omega, by omega⟩, ?_⟩; (conv => whnf))))
    refine ⟨rfl, _, M2.trans (Moves.put M2.inn (.inl (by rw [P2.cell]; simp)) _), rcrash_wf hwf keep, q, os.map (crR keep), G, ?_⟩
    unfold rcrashS
    rw [← e]
    exact P5
end Go.Proofs.Ytlkdbmoocajjlaa.Al

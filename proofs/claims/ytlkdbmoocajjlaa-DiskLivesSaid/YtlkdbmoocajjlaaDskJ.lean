/- The reference's disks: Flush and Crash, over what is known of memory. -/
import Derived.Test.YtlkdbmoocajjlaaDskI
namespace Go.Proofs.Ytlkdbmoocajjlaa.Al
open Go Go.Al Go.Proofs Go.RowKit
set_option maxHeartbeats 8000000
set_option maxRecDepth 100000
set_option linter.unusedVariables false
set_option linter.unusedSimpArgs false
/-- The first j are changed. -/
def mixL {α : Type} (f : α → α) (j : Nat) (xs : List α) : List α := (xs.take j).map f ++ xs.drop j
theorem mixL_len {α : Type} (f : α → α) (j : Nat) (xs : List α) : (mixL f j xs).length = xs.length := by
  unfold mixL
  rw [List.length_append, List.length_map, List.length_take, List.length_drop]
  omega
theorem mixL_zero {α : Type} (f : α → α) (xs : List α) : mixL f 0 xs = xs := rfl
theorem mixL_all {α : Type} (f : α → α) (xs : List α) : mixL f xs.length xs = xs.map f := by
  unfold mixL
  rw [List.take_length, List.drop_length, List.append_nil]
theorem mixL_get {α : Type} (f : α → α) {j : Nat} {xs : List α} (h : j < xs.length) : (mixL f j xs)[j]? = xs[j]? := by
  unfold mixL
  rw [List.getElem?_append_right (by rw [List.length_map, List.length_take]; omega), List.length_map, List.length_take, Nat.min_eq_left (by omega), Nat.sub_self, List.getElem?_drop, Nat.add_zero]
theorem mixL_set {α : Type} (f : α → α) {j : Nat} {xs : List α} {x : α} (h : xs[j]? = some x) : (mixL f j xs).set j (f x) = mixL f (j + 1) xs := by
  have hj := (List.getElem?_eq_some_iff.1 h).1
  have hx := (List.getElem?_eq_some_iff.1 h).2
  unfold mixL
  rw [List.set_append_right _ _ (by rw [List.length_map, List.length_take]; omega), List.length_map, List.length_take, Nat.min_eq_left (by omega), Nat.sub_self, List.drop_eq_getElem_cons hj, List.set_cons_zero, List.take_add_one, h, List.map_append, List.append_assoc]
  rfl
theorem mixL_same {α : Type} (f : α → α) {j : Nat} {xs : List α} {x : α} (h : xs[j]? = some x) (e : f x = x) : mixL f (j + 1) xs = mixL f j xs := by
  rw [← mixL_set f h, e]
  have hj := (List.getElem?_eq_some_iff.1 h).1
  have h2 : (mixL f j xs)[j]? = some x := by rw [mixL_get f hj, h]
  obtain ⟨h3, h4⟩ := List.getElem?_eq_some_iff.1 h2
  rw [← h4]
  exact List.set_getElem_self h3
theorem RkP.setM {D : Heap} {b q : Nat} {os : List OR} {G : Heap} {tn dn am : Int} {ad dw : Bool} (h : RkP D b q os G ⟨os.map od, tn, dn, am, ad, dw⟩) (i : Nat) (o : OR) (ho : OrOk G o) :
    RkP (D.put q (osO (os.set i o))) b q (os.set i o) G ⟨(os.set i o).map od, tn, dn, am, ad, dw⟩ := by
  have := h.set i o ho
  rw [List.map_set]
  exact this
def fl (o : OD) : OD := if o.t > 0 then ⟨o.l, o.l, 0⟩ else o
def flR (o : OR) : OR := if o.t > 0 then ⟨o.l, o.l, 0, o.lA, o.lc, o.lA, o.lc⟩ else o
theorem fl_od (o : OR) : od (flR o) = fl (od o) := by
  unfold flR fl
  by_cases h : o.t > 0
  · rw [if_pos h, if_pos (show (od o).t > 0 from h)]; rfl
  · rw [if_neg h, if_neg (show ¬ (od o).t > 0 from h)]
def rflushS (r : RS) : RS := if r.down = true then r else { r with L := r.L.map fl, turn := 0 }
theorem rflush_wf {r : RS} (h : RWf r) : RWf { r with L := r.L.map fl, turn := 0 } := by
  have h1 := h.turn
  refine ⟨by show 3 ≤ (r.L.map fl).length ∧ (r.L.map fl).length ≤ 65536; rw [List.length_map]; exact h.len, ⟨(by decide : (0 : Int) ≤ 0), (by omega : 0 ≤ r.done)⟩, h.done, h.arm, fun o ho => ?_⟩
  obtain ⟨x, hx, rfl⟩ := List.mem_map.1 ho
  have := h.ts x hx
  unfold fl
  split
  · exact ⟨(by decide : (0 : Int) ≤ 0), (by decide : (0 : Int) ≤ 0)⟩
  · exact ⟨this.1, (by omega : x.t ≤ 0)⟩
theorem rflush {D F : Heap} {b : Nat} {r : RS} (hE : Ext D F) (hD : Rk D b r) :
    FnK Try.prog 38 #[.pointer (some ⟨b, 0, none⟩)] F (fun v F' => v = .int .i64 (if r.down = true then 5 else 0) ∧ ∃ D', Moves D F D' F' ∧ Rk D' b (rflushS r)) := by
  have hD0 := hD
  obtain ⟨hwf, q, os, G, hP⟩ := hD
  have hb := hE _ _ hP.cell
  have hlen : r.L.length = os.length := by rw [hP.L, List.length_map]
  have hle := hwf.len
  (refine fn_walk tab_ok Try.func38 rfl rfl rfl rfl ?_; (conv => whnf))
  ((conv => whnf); repeat (first | (apply load_at; (conv => lhs; whnf); (with_reducible assumption); rfl; (conv => whnf)) | (apply load_at; (conv => lhs; rw [add_plain, add_plain]); (with_reducible assumption); rfl; (conv => whnf)) | (apply loads_at; (conv => lhs; whnf); (with_reducible assumption); rfl; (conv => whnf)) | (refine ⟨⟨by omega, by omega⟩, ?_⟩; (conv => whnf))))
  refine cond_split (fun h => ?_) (fun h => ?_)
  · have hd : r.down = true := h
    ((conv => whnf); repeat (first | (apply load_at; (conv => lhs; whnf); (with_reducible assumption); rfl; (conv => whnf)) | (apply load_at; (conv => lhs; rw [add_plain, add_plain]); (with_reducible assumption); rfl; (conv => whnf)) | (apply loads_at; (conv => lhs; whnf); (with_reducible assumption); rfl; (conv => whnf)) | (refine ⟨⟨by omega, by omega⟩, ?_⟩; (conv => whnf))))
    exact ⟨by rw [if_pos hd]; rfl, D, Moves.refl hE, by unfold rflushS; rw [if_pos hd]; exact hD0⟩
  have hd : ¬ r.down = true := by have h : r.down = false := h
                                  rw [h]; decide
  ((conv => whnf); repeat (first | (apply load_at; (conv => lhs; whnf); (with_reducible assumption); rfl; (conv => whnf)) | (apply load_at; (conv => lhs; rw [add_plain, add_plain]); (with_reducible assumption); rfl; (conv => whnf)) | (apply loads_at; (conv => lhs; whnf); (with_reducible assumption); rfl; (conv => whnf)) | (refine ⟨⟨by omega, by omega⟩, ?_⟩; (conv => whnf))))
  refine loop_slots [0, 3] (fun k vs F' => ∃ (j : Nat) (D' : Heap), j + k = os.length ∧ vs = [.pointer (some ⟨b, 0, none⟩), .int .i64 (j : Int)] ∧ Moves D F D' F' ∧ RkP D' b q (mixL flR j os) G ⟨(mixL flR j os).map od, r.turn, r.done, r.arm, r.armed, r.down⟩) os.length ⟨0, D, by omega, rfl, Moves.refl hE, by rw [mixL_zero, ← hP.L]; exact hP⟩ ?_
  rintro k vs F2 ρ ⟨j, D', hjk, rfl, hM, hP'⟩
  have hb2 : F2 b = some (rdO (.slice (some ⟨q, 0, none⟩) os.length os.length) r.turn r.done r.arm r.armed r.down) := by have := hM.inn _ _ hP'.cell; rw [mixL_len] at this; exact this
  have hq2 := hM.inn _ _ hP'.row
  ((conv => whnf); repeat (first | (apply load_at; (conv => lhs; whnf); (with_reducible assumption); rfl; (conv => whnf)) | (apply load_at; (conv => lhs; rw [add_plain, add_plain]); (with_reducible assumption); rfl; (conv => whnf)) | (apply loads_at; (conv => lhs; whnf); (with_reducible assumption); rfl; (conv => whnf)) | (refine ⟨⟨by omega, by omega⟩, ?_⟩; (conv => whnf))))
  refine cond_split (fun h => ?_) (fun h => ?_)
  · have hj : j < os.length := by have := of_decide_eq_true h; omega
    obtain ⟨o, ho⟩ : ∃ o, os[j]? = some o := ⟨_, List.getElem?_eq_getElem hj⟩
    have hok := hP.ok o (List.mem_of_getElem? ho)
    have ho2 : (mixL flR j os)[j]? = some o := by rw [mixL_get flR hj]; exact ho
    have hj2 : j < (mixL flR j os).length := by rw [mixL_len]; exact hj
    have hws : IntKind.i64.wrap ((j : Int) + 1) = ((j + 1 : Nat) : Int) := wrap_succ (by omega)
    ((conv => whnf); repeat (first | (apply load_at; (conv => lhs; whnf); (with_reducible assumption); rfl; (conv => whnf)) | (apply load_at; (conv => lhs; rw [add_plain, add_plain]); (with_reducible assumption); rfl; (conv => whnf)) | (apply loads_at; (conv => lhs; whnf); (with_reducible assumption); rfl; (conv => whnf)) | (refine ⟨⟨by omega, by omega⟩, ?_⟩; (conv => whnf))))
    refine load_at (ad3 q j 2) hq2 (os_get ho2 rfl) ?_
    ((conv => whnf); repeat (first | (apply load_at; (conv => lhs; whnf); (with_reducible assumption); rfl; (conv => whnf)) | (apply load_at; (conv => lhs; rw [add_plain, add_plain]); (with_reducible assumption); rfl; (conv => whnf)) | (apply loads_at; (conv => lhs; whnf); (with_reducible assumption); rfl; (conv => whnf)) | (refine ⟨⟨by omega, by omega⟩, ?_⟩; (conv => whnf))))
    refine cond_split (fun h => ?_) (fun h => ?_)
    · have h : decide (o.t > 0) = true := h
      have ht : o.t > 0 := of_decide_eq_true h
      refine short [0, 3] [.pointer (some ⟨b, 0, none⟩), .int .i64 (j : Int)] rfl fun ρ => ?_
      (conv => whnf)
      refine draw_walk tab_ok (by kernel_rfl) [0, 1, 2, 3, 4, 5, 6, 7, 8, 9, 10, 11, 12, 13, 14, 15, 16, 17, 18, 19, 20, 21, 22, 23] (by kernel_rfl) ?_
      ((conv => whnf); repeat (first | (apply load_at; (conv => lhs; whnf); (with_reducible assumption); rfl; (conv => whnf)) | (apply load_at; (conv => lhs; rw [add_plain, add_plain]); (with_reducible assumption); rfl; (conv => whnf)) | (apply loads_at; (conv => lhs; whnf); (with_reducible assumption); rfl; (conv => whnf)) | (refine ⟨⟨by omega, by omega⟩, ?_⟩; (conv => whnf))))
      refine load_at (ad3 q j 1) hq2 (os_get ho2 rfl) ?_
      ((conv => whnf); repeat (first | (apply load_at; (conv => lhs; whnf); (with_reducible assumption); rfl; (conv => whnf)) | (apply load_at; (conv => lhs; rw [add_plain, add_plain]); (with_reducible assumption); rfl; (conv => whnf)) | (apply loads_at; (conv => lhs; whnf); (with_reducible assumption); rfl; (conv => whnf)) | (refine ⟨⟨by omega, by omega⟩, ?_⟩; (conv => whnf))))
      refine store_step q (j * 3 + 0) _ (rowS orC ((mixL flR j os).set j { o with s := o.l, sA := o.lA, sc := o.lc })).toArray (ad3 q j 0) hq2 (os_put ho2 (by decide) rfl) (os_in hj2 (by decide)) (.inl (Nat.le_refl 0)) (one_slice _ _ _) ?_
      have M3 := hM.trans (Moves.put hM.inn (.inl (by rw [hP'.row]; simp)) (osO ((mixL flR j os).set j { o with s := o.l, sA := o.lA, sc := o.lc })))
      have P3 := hP'.setM j { o with s := o.l, sA := o.lA, sc := o.lc } ⟨hok.l, hok.l, hok.lc, hok.lc, hok.ln, hok.ln⟩
      have hq3 := M3.inn _ _ P3.row
      generalize F2.put q _ = F3 at M3 hq3 ⊢
      generalize D'.put q _ = D3 at M3 P3
      have ho3 : ((mixL flR j os).set j { o with s := o.l, sA := o.lA, sc := o.lc })[j]? = some { o with s := o.l, sA := o.lA, sc := o.lc } := by rw [List.getElem?_set_self hj2]
      have hj3 : j < ((mixL flR j os).set j { o with s := o.l, sA := o.lA, sc := o.lc }).length := by rw [List.length_set]; exact hj2
      ((conv => whnf); repeat (first | (apply load_at; (conv => lhs; whnf); (with_reducible assumption); rfl; (conv => whnf)) | (apply load_at; (conv => lhs; rw [add_plain, add_plain]); (with_reducible assumption); rfl; (conv => whnf)) | (apply loads_at; (conv => lhs; whnf); (with_reducible assumption); rfl; (conv => whnf)) | (refine ⟨⟨by omega, by omega⟩, ?_⟩; (conv => whnf))))
      refine store_step q (j * 3 + 2) _ (rowS orC (((mixL flR j os).set j { o with s := o.l, sA := o.lA, sc := o.lc }).set j (flR o))).toArray (ad3 q j 2) hq3 (os_put ho3 (by decide) (by unfold flR; rw [if_pos ht]; rfl)) (os_in hj3 (by decide)) (.inl (Nat.le_refl 0)) (one_int _ _) ?_
      have hokf : OrOk G (flR o) := by unfold flR; rw [if_pos ht]; exact ⟨hok.l, hok.l, hok.lc, hok.lc, hok.ln, hok.ln⟩
      have M4 := M3.trans (Moves.put M3.inn (.inl (by rw [P3.row]; simp)) (osO (((mixL flR j os).set j { o with s := o.l, sA := o.lA, sc := o.lc }).set j (flR o))))
      have P4 := P3.setM j (flR o) hokf
      generalize F3.put q _ = F4 at M4 ⊢
      generalize D3.put q _ = D4 at M4 P4
      rw [List.set_set, mixL_set flR ho] at P4
      ((conv => whnf); repeat (first | (apply load_at; (conv => lhs; whnf); (with_reducible assumption); rfl; (conv => whnf)) | (apply load_at; (conv => lhs; rw [add_plain, add_plain]); (with_reducible assumption); rfl; (conv => whnf)) | (apply loads_at; (conv => lhs; whnf); (with_reducible assumption); rfl; (conv => whnf)) | (refine ⟨⟨by omega, by omega⟩, ?_⟩; (conv => whnf))))
      refine ⟨k - 1, by omega, j + 1, D4, by omega, ?_, M4, P4⟩
      rw [← hws]
      rfl
    · have h : decide (o.t > 0) = false := h
      have ht : ¬ o.t > 0 := of_decide_eq_false h
      ((conv => whnf); repeat (first | (apply load_at; (conv => lhs; whnf); (with_reducible assumption); rfl; (conv => whnf)) | (apply load_at; (conv => lhs; rw [add_plain, add_plain]); (with_reducible assumption); rfl; (conv => whnf)) | (apply loads_at; (conv => lhs; whnf); (with_reducible assumption); rfl; (conv => whnf)) | (refine ⟨⟨by omega, by omega⟩, ?_⟩; (conv => whnf))))
      refine ⟨k - 1, by omega, j + 1, D', by omega, ?_, hM, ?_⟩
      · rw [← hws]
        rfl
      · rw [mixL_same flR ho (by unfold flR; rw [if_neg ht])]
        exact hP'
  · have hj : j = os.length := by have := of_decide_eq_false h; omega
    subst hj
    rw [mixL_all] at hP'
    ((conv => whnf); repeat (first | (apply load_at; (conv => lhs; whnf); (with_reducible assumption); rfl; (conv => whnf)) | (apply load_at; (conv => lhs; rw [add_plain, add_plain]); (with_reducible assumption); rfl; (conv => whnf)) | (apply loads_at; (conv => lhs; whnf); (with_reducible assumption); rfl; (conv => whnf)) | (refine ⟨⟨by omega, by omega⟩, ?_⟩; (conv => whnf))))
    refine store_step b 1 _ (rdC (.slice (some ⟨q, 0, none⟩) os.length os.length) 0 r.done r.arm r.armed r.down) rfl hb2 rfl rfl (.inl (Nat.le_refl 0)) (one_int _ _) ?_
    ((conv => whnf); repeat (first | (apply load_at; (conv => lhs; whnf); (with_reducible assumption); rfl; (conv => whnf)) | (apply load_at; (conv => lhs; rw [add_plain, add_plain]); (with_reducible assumption); rfl; (conv => whnf)) | (apply loads_at; (conv => lhs; whnf); (with_reducible assumption); rfl; (conv => whnf)) | (refine ⟨⟨by omega, by omega⟩, ?_⟩; (conv => whnf))))
    have P5 := hP'.nums 0 r.done r.arm r.armed r.down
    rw [List.length_map] at P5
    refine ⟨by rw [if_neg hd]; rfl, _, hM.trans (Moves.put hM.inn (.inl (by rw [hP'.cell]; simp)) _), ?_⟩
    have e : ((os.map flR).map od) = r.L.map fl := by rw [hP.L, List.map_map, List.map_map]; exact List.map_congr_left fun o _ => fl_od o
    unfold rflushS
    rw [if_neg hd]
    refine ⟨rflush_wf hwf, q, os.map flR, G, ?_⟩
    rw [← e]
    exact P5
end Go.Proofs.Ytlkdbmoocajjlaa.Al

/- Disks: disk.settle, Flush and Crash, over what is known of memory. -/
import Derived.Test.YtlkdbmoocajjlaaDskD
namespace Go.Proofs.Ytlkdbmoocajjlaa.Al
open Go Go.Al Go.Proofs Go.RowKit
set_option maxHeartbeats 8000000
set_option maxRecDepth 100000
set_option linter.unusedVariables false
set_option linter.unusedSimpArgs false
def setl (kp : Nat → Bool) (f : Int → Option (List UInt8)) (l : List Int) (j : Nat) (sf : Int → Option (List UInt8)) : Int → Option (List UInt8) :=
  match l with | [] => sf | i :: l => setl kp f l (j + 1) (if kp j = true then updF sf i (f i) else sf)
theorem setl_cons (kp : Nat → Bool) (f : Int → Option (List UInt8)) (i : Int) (l : List Int) (j : Nat) (sf : Int → Option (List UInt8)) : setl kp f (i :: l) j sf = setl kp f l (j + 1) (if kp j = true then updF sf i (f i) else sf) := rfl
def settleS (s : DS) (kp : Nat → Bool) : DS := { s with safe := setl kp s.fresh s.order 0 s.safe, fresh := fun _ => none, order := [] }
theorem settle_wf {s : DS} (h : DWf s) (kp : Nat → Bool) : DWf (settleS s kp) where
  sz := h.sz
  lf := h.lf
  wr := h.wr
  ord := (by have := h.wr; show ((0 : Nat) : Int) ≤ s.writes; omega)
  fr := fun i => ⟨fun h => (List.not_mem_nil h).elim, fun h => (h rfl).elim⟩
  inr := fun i hi => (List.not_mem_nil hi).elim
  nod := List.nodup_nil
theorem settle {D F R : Heap} {b : Nat} {s : DS} (hE : Ext D F) (hD : Dk D b s) (hR : Ext R F) (hA : Apart D R) (fid : Nat) (caps : List Value) (kp : Nat → Bool)
    (hk : ∀ (F' : Heap) (j : Nat), j < s.order.length → Ext R F' → FnK Try.prog fid (Value.int .i64 (j : Int) :: caps).toArray F' (fun v F'' => v = .bool (kp j) ∧ F'' = F')) :
    FnK Try.prog 65 #[.pointer (some ⟨b, 0, none⟩), .func (.func fid) #[] caps.toArray] F (fun v F' => v = .tuple #[] ∧ ∃ D', Moves D F D' F' ∧ Dk D' b (settleS s kp)) := by
  obtain ⟨hwf, ms, mf, S, lS, lF, G, hP⟩ := hD
  have hord : s.order.length ≤ 1000000000 := by have := hwf.ord; have := hwf.wr; omega
  have hcell := hE _ _ hP.cell
  obtain ⟨A, c, hS, hc, _⟩ := hP.own.row
  subst hS
  (refine fn_walk tab_ok Try.func65 rfl rfl rfl rfl ?_; (conv => whnf))
  ((conv => whnf); repeat (first | (apply load_at; (conv => lhs; whnf); (with_reducible assumption); rfl; (conv => whnf)) | (apply load_at; (conv => lhs; rw [add_plain, add_plain]); (with_reducible assumption); rfl; (conv => whnf)) | (apply loads_at; (conv => lhs; whnf); (with_reducible assumption); rfl; (conv => whnf)) | (refine ⟨⟨by omega, by omega⟩, ?_⟩; (conv => whnf))))
  refine loop_slots [0, 1, 9, 10, 11] (fun k vs F' => ∃ (j : Nat) (D' : Heap) (lS' : ML) (sf : Int → Option (List UInt8)), j + k = s.order.length ∧ vs = [.pointer (some ⟨b, 0, none⟩), .func (.func fid) #[] caps.toArray, .slice A s.order.length c, .int .i64 (s.order.length : Int), .int .i64 (j : Int)] ∧ Moves D F D' F' ∧ DkP D' b ms mf (.slice A s.order.length c) lS' lF G { s with safe := sf } ∧ setl kp s.fresh (s.order.drop j) j sf = setl kp s.fresh s.order 0 s.safe) s.order.length ⟨0, D, lS, s.safe, by omega, rfl, Moves.refl hE, hP, rfl⟩ ?_
  rintro k vs F2 ρ ⟨j, D', lS', sf, hjk, rfl, hM, hP', hst⟩
  have hcell' : F2 b = some (dkO s.armed s.left s.down s.size (.map (some ms)) (.map (some mf)) (.slice A s.order.length c) s.writes) := hM.inn _ _ hP'.cell
  have hR' := hM.keep hR hA
  ((conv => whnf); repeat (first | (apply load_at; (conv => lhs; whnf); (with_reducible assumption); rfl; (conv => whnf)) | (apply load_at; (conv => lhs; rw [add_plain, add_plain]); (with_reducible assumption); rfl; (conv => whnf)) | (apply loads_at; (conv => lhs; whnf); (with_reducible assumption); rfl; (conv => whnf)) | (refine ⟨⟨by omega, by omega⟩, ?_⟩; (conv => whnf))))
  refine cond_split (fun h => ?_) (fun h => ?_)
  · have hj : j < s.order.length := by have := of_decide_eq_true h; omega
    obtain ⟨_, _, hS', _, hrow⟩ := (hP'.own.of_blk fun k o _ ho => hM.inn _ _ ho : Own F2 (.slice A s.order.length c) 3 1 s.order.length (s.order.map (.int .i64))).row
    cases hS'
    obtain ⟨ad, rfl⟩ := hrow.some (by simp; omega)
    have hxj : s.order[j]? = some s.order[j] := List.getElem?_eq_getElem hj
    have hdr : s.order.drop j = s.order[j] :: s.order.drop (j + 1) := (List.drop_eq_getElem_cons hj)
    have hmem : s.order[j] ∈ s.order := List.getElem_mem hj
    rw [hdr, setl_cons] at hst
    generalize s.order[j] = y at hxj hst hmem
    have hws : IntKind.i64.wrap ((j : Int) + 1) = ((j + 1 : Nat) : Int) := wrap_succ (by omega)
    ((conv => whnf); repeat (first | (apply load_at; (conv => lhs; whnf); (with_reducible assumption); rfl; (conv => whnf)) | (apply load_at; (conv => lhs; rw [add_plain, add_plain]); (with_reducible assumption); rfl; (conv => whnf)) | (apply loads_at; (conv => lhs; whnf); (with_reducible assumption); rfl; (conv => whnf)) | (refine ⟨⟨by omega, by omega⟩, ?_⟩; (conv => whnf))))
    refine load_step (v := .int .i64 y) ?_ ?_
    · show F2.cell? (ad.add (Int.toNat (j : Int) * 1)) = _
      rw [Int.toNat_natCast, Nat.mul_one]
      exact hrow.cell (by simp [hxj])
    ((conv => whnf); repeat (first | (apply load_at; (conv => lhs; whnf); (with_reducible assumption); rfl; (conv => whnf)) | (apply load_at; (conv => lhs; rw [add_plain, add_plain]); (with_reducible assumption); rfl; (conv => whnf)) | (apply loads_at; (conv => lhs; whnf); (with_reducible assumption); rfl; (conv => whnf)) | (refine ⟨⟨by omega, by omega⟩, ?_⟩; (conv => whnf))))
    refine call_of (hk F2 j hj hR') ?_
    rintro v F3 ⟨rfl, rfl⟩
    ((conv => whnf); repeat (first | (apply load_at; (conv => lhs; whnf); (with_reducible assumption); rfl; (conv => whnf)) | (apply load_at; (conv => lhs; rw [add_plain, add_plain]); (with_reducible assumption); rfl; (conv => whnf)) | (apply loads_at; (conv => lhs; whnf); (with_reducible assumption); rfl; (conv => whnf)) | (refine ⟨⟨by omega, by omega⟩, ?_⟩; (conv => whnf))))
    refine cond_split (fun h => ?_) (fun h => ?_)
    · have h : kp j = true := h
      rw [if_pos h] at hst
      obtain ⟨v, hv⟩ : ∃ v, getM lF y = some v := by
        cases e : getM lF y with
        | some v => exact ⟨v, rfl⟩
        | none => exact absurd (hP'.rf.no y e) ((hwf.fr y).1 hmem)
      ((conv => whnf); repeat (first | (apply load_at; (conv => lhs; whnf); (with_reducible assumption); rfl; (conv => whnf)) | (apply load_at; (conv => lhs; rw [add_plain, add_plain]); (with_reducible assumption); rfl; (conv => whnf)) | (apply loads_at; (conv => lhs; whnf); (with_reducible assumption); rfl; (conv => whnf)) | (refine ⟨⟨by omega, by omega⟩, ?_⟩; (conv => whnf))))
      refine draw_walk tab_ok (by kernel_rfl) [0, 1, 2, 3, 4, 5, 6, 7, 8, 9, 10, 11] (by kernel_rfl) ?_
      ((conv => whnf); repeat (first | (apply load_at; (conv => lhs; whnf); (with_reducible assumption); rfl; (conv => whnf)) | (apply load_at; (conv => lhs; rw [add_plain, add_plain]); (with_reducible assumption); rfl; (conv => whnf)) | (apply loads_at; (conv => lhs; whnf); (with_reducible assumption); rfl; (conv => whnf)) | (refine ⟨⟨by omega, by omega⟩, ?_⟩; (conv => whnf))))
      refine op_lookup_at tab_ok rfl rfl rfl rfl rfl rfl rfl (hP'.fresh.mono hM.inn) hv ?_
      (conv => whnf)
      refine ⟨Ext.refl _, ?_⟩
      ((conv => whnf); repeat (first | (apply load_at; (conv => lhs; whnf); (with_reducible assumption); rfl; (conv => whnf)) | (apply load_at; (conv => lhs; rw [add_plain, add_plain]); (with_reducible assumption); rfl; (conv => whnf)) | (apply loads_at; (conv => lhs; whnf); (with_reducible assumption); rfl; (conv => whnf)) | (refine ⟨⟨by omega, by omega⟩, ?_⟩; (conv => whnf))))
      refine op_mapUpdate (t := 61) (kt := 3) (et := 55) (v := v) (k := y) tab_ok rfl rfl rfl rfl rfl rfl (hP'.safe.mono hM.inn) fun o' ho => ?_
      have P2 := hP'.setS hv ho
      have M2 := hM.trans (Moves.put hM.inn (.inl (by obtain ⟨o, h1, _⟩ := hP'.safe; rw [h1]; simp)) o')
      generalize Heap.put F3 ms o' = F4 at M2 ⊢
      ((conv => whnf); repeat (first | (apply load_at; (conv => lhs; whnf); (with_reducible assumption); rfl; (conv => whnf)) | (apply load_at; (conv => lhs; rw [add_plain, add_plain]); (with_reducible assumption); rfl; (conv => whnf)) | (apply loads_at; (conv => lhs; whnf); (with_reducible assumption); rfl; (conv => whnf)) | (refine ⟨⟨by omega, by omega⟩, ?_⟩; (conv => whnf))))
      refine ⟨k - 1, by omega, j + 1, _, _, _, by omega, ?_, M2, P2, hst⟩
      rw [← hws]
      rfl
    · have h : kp j = false := h
      rw [if_neg (by rw [h]; decide)] at hst
      ((conv => whnf); repeat (first | (apply load_at; (conv => lhs; whnf); (with_reducible assumption); rfl; (conv => whnf)) | (apply load_at; (conv => lhs; rw [add_plain, add_plain]); (with_reducible assumption); rfl; (conv => whnf)) | (apply loads_at; (conv => lhs; whnf); (with_reducible assumption); rfl; (conv => whnf)) | (refine ⟨⟨by omega, by omega⟩, ?_⟩; (conv => whnf))))
      refine ⟨k - 1, by omega, j + 1, _, _, _, by omega, ?_, hM, hP', hst⟩
      rw [← hws]
      rfl
  · have hj : j = s.order.length := by have := of_decide_eq_false h; omega
    subst hj
    rw [List.drop_length] at hst
    have hst : sf = setl kp s.fresh s.order 0 s.safe := hst
    subst hst
    ((conv => whnf); repeat (first | (apply load_at; (conv => lhs; whnf); (with_reducible assumption); rfl; (conv => whnf)) | (apply load_at; (conv => lhs; rw [add_plain, add_plain]); (with_reducible assumption); rfl; (conv => whnf)) | (apply loads_at; (conv => lhs; whnf); (with_reducible assumption); rfl; (conv => whnf)) | (refine ⟨⟨by omega, by omega⟩, ?_⟩; (conv => whnf))))
    refine op_clear tab_ok rfl rfl rfl (hP'.fresh.mono hM.inn) fun o' ho => ?_
    have hP2 := hP'.clear ho
    have M2 := hM.trans (Moves.put hM.inn (.inl (by obtain ⟨o, h1, _⟩ := hP'.fresh; rw [h1]; simp)) o')
    have hb2 : F2.put mf o' b = some (dkO s.armed s.left s.down s.size (.map (some ms)) (.map (some mf)) (.slice A s.order.length c) s.writes) := by rw [Heap.put_other _ _ (Ne.symm hP'.mfb)]; exact hcell'
    generalize F2.put mf o' = F4 at M2 hb2 ⊢
    ((conv => whnf); repeat (first | (apply load_at; (conv => lhs; whnf); (with_reducible assumption); rfl; (conv => whnf)) | (apply load_at; (conv => lhs; rw [add_plain, add_plain]); (with_reducible assumption); rfl; (conv => whnf)) | (apply loads_at; (conv => lhs; whnf); (with_reducible assumption); rfl; (conv => whnf)) | (refine ⟨⟨by omega, by omega⟩, ?_⟩; (conv => whnf))))
    refine store_step b 6 _ (dkC s.armed s.left s.down s.size (.map (some ms)) (.map (some mf)) (.slice none 0 0) s.writes) rfl hb2 rfl rfl (.inl (Nat.le_refl 0)) (one_slice _ _ _) ?_
    ((conv => whnf); repeat (first | (apply load_at; (conv => lhs; whnf); (with_reducible assumption); rfl; (conv => whnf)) | (apply load_at; (conv => lhs; rw [add_plain, add_plain]); (with_reducible assumption); rfl; (conv => whnf)) | (apply loads_at; (conv => lhs; whnf); (with_reducible assumption); rfl; (conv => whnf)) | (refine ⟨⟨by omega, by omega⟩, ?_⟩; (conv => whnf))))
    refine ⟨rfl, _, M2.trans (Moves.put M2.inn (.inl ?_) _), settle_wf hwf kp, ms, mf, _, _, _, G, hP2⟩
    rw [Heap.put_other _ _ (Ne.symm hP'.mfb), hP'.cell]
    simp
theorem keepAll (F : Heap) (j : Nat) : FnK Try.prog 66 (Value.int .i64 (j : Int) :: []).toArray F (fun v F'' => v = .bool ((fun _ => true : Nat → Bool) j) ∧ F'' = F) := by
  (refine fn_walk tab_ok Try.func66 rfl rfl rfl rfl ?_; (conv => whnf))
  exact ⟨rfl, rfl⟩
theorem keepSome (keep : List Int) (A : Option Addr) (c g : Nat) (F : Heap) (j : Nat) (hr : RowAt F A (keep.map (.int .i64))) (hl : keep.length ≤ 900000) (hg : F g = some (.cells #[.slice A keep.length c] 32)) :
    FnK Try.prog 67 (Value.int .i64 (j : Int) :: [.pointer (some ⟨g, 0, none⟩)]).toArray F (fun v F'' => v = .bool (decide ((j : Int) ∈ keep)) ∧ F'' = F) := by
  (refine fn_walk tab_ok Try.func67 rfl rfl rfl rfl ?_; (conv => whnf))
  ((conv => whnf); repeat (first | (apply load_at; (conv => lhs; whnf); (with_reducible assumption); rfl; (conv => whnf)) | (apply load_at; (conv => lhs; rw [add_plain, add_plain]); (with_reducible assumption); rfl; (conv => whnf)) | (apply loads_at; (conv => lhs; whnf); (with_reducible assumption); rfl; (conv => whnf)) | (refine ⟨⟨by omega, by omega⟩, ?_⟩; (conv => whnf))))
  refine call_of (containsInts keep j A c F hr hl) ?_
  rintro v F2 ⟨rfl, rfl⟩
  ((conv => whnf); repeat (first | (apply load_at; (conv => lhs; whnf); (with_reducible assumption); rfl; (conv => whnf)) | (apply load_at; (conv => lhs; rw [add_plain, add_plain]); (with_reducible assumption); rfl; (conv => whnf)) | (apply loads_at; (conv => lhs; whnf); (with_reducible assumption); rfl; (conv => whnf)) | (refine ⟨⟨by omega, by omega⟩, ?_⟩; (conv => whnf))))
  exact ⟨rfl, rfl⟩
def flushE (s : DS) : Int := if s.down = true then 5 else 0
def flushS (s : DS) : DS := if s.down = true then s else settleS s (fun _ => true)
theorem flush {D F : Heap} {b : Nat} {s : DS} (hE : Ext D F) (hD : Dk D b s) :
    FnK Try.prog 30 #[.pointer (some ⟨b, 0, none⟩)] F (fun v F' => v = .int .i64 (flushE s) ∧ ∃ D', Moves D F D' F' ∧ Dk D' b (flushS s)) := by
  have hset := settle hE hD (emptyH_ext F) (Apart.symm (Apart.none D)) 66 [] (fun _ => true) (fun F' j _ _ => keepAll F' j)
  have hD0 := hD
  obtain ⟨hwf, ms, mf, S, lS, lF, G, hP⟩ := hD
  have hsz := hwf.sz
  have hm := may (hE _ _ hP.cell)
  rw [show mayE s.down s.size = if s.down = true then 5 else 0 from if_pos (by omega)] at hm
  (refine fn_walk tab_ok Try.func30 rfl rfl rfl rfl ?_; (conv => whnf))
  refine call_of hm ?_
  rintro v F2 ⟨rfl, rfl⟩
  ((conv => whnf); repeat (first | (apply load_at; (conv => lhs; whnf); (with_reducible assumption); rfl; (conv => whnf)) | (apply load_at; (conv => lhs; rw [add_plain, add_plain]); (with_reducible assumption); rfl; (conv => whnf)) | (apply loads_at; (conv => lhs; whnf); (with_reducible assumption); rfl; (conv => whnf)) | (refine ⟨⟨by omega, by omega⟩, ?_⟩; (conv => whnf))))
  refine cond_split (fun h => ?_) (fun h => ?_)
  · have h : ((if s.down = true then (5 : Int) else 0) != 0) = true := h
    have hd : s.down = true := by
      cases e : s.down with
      | true => rfl
      | false => rw [e] at h; exact absurd h (by decide)
    ((conv => whnf); repeat (first | (apply load_at; (conv => lhs; whnf); (with_reducible assumption); rfl; (conv => whnf)) | (apply load_at; (conv => lhs; rw [add_plain, add_plain]); (with_reducible assumption); rfl; (conv => whnf)) | (apply loads_at; (conv => lhs; whnf); (with_reducible assumption); rfl; (conv => whnf)) | (refine ⟨⟨by omega, by omega⟩, ?_⟩; (conv => whnf))))
    exact ⟨rfl, D, Moves.refl hE, by unfold flushS; rw [if_pos hd]; exact hD0⟩
  have h : ((if s.down = true then (5 : Int) else 0) != 0) = false := h
  have hd : ¬ s.down = true := by
    intro e
    rw [if_pos e] at h
    exact absurd h (by decide)
  ((conv => whnf); repeat (first | (apply load_at; (conv => lhs; whnf); (with_reducible assumption); rfl; (conv => whnf)) | (apply load_at; (conv => lhs; rw [add_plain, add_plain]); (with_reducible assumption); rfl; (conv => whnf)) | (apply loads_at; (conv => lhs; whnf); (with_reducible assumption); rfl; (conv => whnf)) | (refine ⟨⟨by omega, by omega⟩, ?_⟩; (conv => whnf))))
  refine call_of hset ?_
  rintro v F3 ⟨rfl, D', hM, hD'⟩
  ((conv => whnf); repeat (first | (apply load_at; (conv => lhs; whnf); (with_reducible assumption); rfl; (conv => whnf)) | (apply load_at; (conv => lhs; rw [add_plain, add_plain]); (with_reducible assumption); rfl; (conv => whnf)) | (apply loads_at; (conv => lhs; whnf); (with_reducible assumption); rfl; (conv => whnf)) | (refine ⟨⟨by omega, by omega⟩, ?_⟩; (conv => whnf))))
  refine ⟨?_, D', hM, by unfold flushS; rw [if_neg hd]; exact hD'⟩
  unfold flushE
  rw [if_neg hd]
  rfl
def crashS (s : DS) (keep : List Int) : DS := { settleS s (fun j => decide ((j : Int) ∈ keep)) with armed := false, left := 0, down := false }
theorem crash {D F R : Heap} {b : Nat} {s : DS} (hE : Ext D F) (hD : Dk D b s) (hR : Ext R F) (hA : Apart D R) (keep : List Int) (A : Option Addr) (c : Nat) (hr : RowAt R A (keep.map (.int .i64))) (hl : keep.length ≤ 900000) :
    FnK Try.prog 31 #[.pointer (some ⟨b, 0, none⟩), .slice A keep.length c] F (fun v F' => v = .tuple #[] ∧ ∃ D', Moves D F D' F' ∧ Dk D' b (crashS s keep)) := by
  have hwf := hD.1
  have hsz := hwf.sz
  (refine fn_walk tab_ok Try.func31 rfl rfl rfl rfl ?_; (conv => whnf))
  refine new_step (.cells #[.slice A keep.length c] 32) rfl fun g h0_g => ?_
  have hE_g := Ext.new h0_g (.cells #[.slice A keep.length c] 32)
  have hB_g := Heap.put_same F g (.cells #[.slice A keep.length c] 32)
  generalize F.put g _ = F1 at hE_g hB_g ⊢
  have hM1 := Moves.ext hE hE_g
  have hRg : R g = none := hR.none h0_g
  have hset := settle (R := R.put g (.cells #[.slice A keep.length c] 32)) hM1.inn hD (fun c o hc => by
      by_cases e : c = g
      · subst e; rw [Heap.put_same] at hc; rw [hB_g]; exact hc
      · rw [Heap.put_other _ _ e] at hc; exact hE_g _ _ (hR _ _ hc)) (fun c hc => by
      rw [Heap.put_other _ _ (fun e => by subst e; exact hc (hE.none h0_g))]; exact hA c hc) 67 [.pointer (some ⟨g, 0, none⟩)] (fun j => decide ((j : Int) ∈ keep))
      (fun F' j _ hRF => keepSome keep A c g F' j (hr.mono ((Ext.new hRg _).trans hRF)) hl (hRF _ _ (Heap.put_same _ _ _)))
  have hrd : FnK Try.prog 42 #[.pointer (some ⟨b, 0, none⟩)] F1 (fun v F' => v = .bool true ∧ F' = F1) := by
    obtain ⟨_, ms, mf, S, lS, lF, G, hP⟩ := hD
    have := ready (hM1.inn _ _ hP.cell)
    rw [show decide (s.size > 0) = true from decide_eq_true (by omega)] at this
    exact this
  ((conv => whnf); repeat (first | (apply load_at; (conv => lhs; whnf); (with_reducible assumption); rfl; (conv => whnf)) | (apply load_at; (conv => lhs; rw [add_plain, add_plain]); (with_reducible assumption); rfl; (conv => whnf)) | (apply loads_at; (conv => lhs; whnf); (with_reducible assumption); rfl; (conv => whnf)) | (refine ⟨⟨by omega, by omega⟩, ?_⟩; (conv => whnf))))
  refine call_of hrd ?_
  rintro v F2 ⟨rfl, rfl⟩
  ((conv => whnf); repeat (first | (apply load_at; (conv => lhs; whnf); (with_reducible assumption); rfl; (conv => whnf)) | (apply load_at; (conv => lhs; rw [add_plain, add_plain]); (with_reducible assumption); rfl; (conv => whnf)) | (apply loads_at; (conv => lhs; whnf); (with_reducible assumption); rfl; (conv => whnf)) | (refine ⟨⟨by omega, by omega⟩, ?_⟩; (conv => whnf))))
  refine call_of hset ?_
  rintro v F3 ⟨rfl, D', hM, hwf', ms, mf, S, lS, lF, G, hP⟩
  have hb := hM.inn _ _ hP.cell
  obtain ⟨A5, c5, hS, _, _⟩ := hP.own.row
  subst hS
  ((conv => whnf); repeat (first | (apply load_at; (conv => lhs; whnf); (with_reducible assumption); rfl; (conv => whnf)) | (apply load_at; (conv => lhs; rw [add_plain, add_plain]); (with_reducible assumption); rfl; (conv => whnf)) | (apply loads_at; (conv => lhs; whnf); (with_reducible assumption); rfl; (conv => whnf)) | (refine ⟨⟨by omega, by omega⟩, ?_⟩; (conv => whnf))))
  refine store_step b 0 _ (dkC false 0 false s.size (.map (some ms)) (.map (some mf)) (.slice A5 0 c5) s.writes) rfl hb rfl rfl (.inl (Nat.le_refl 0)) (one_cons rfl (one_cons rfl (one_bool _))) ?_
  ((conv => whnf); repeat (first | (apply load_at; (conv => lhs; whnf); (with_reducible assumption); rfl; (conv => whnf)) | (apply load_at; (conv => lhs; rw [add_plain, add_plain]); (with_reducible assumption); rfl; (conv => whnf)) | (apply loads_at; (conv => lhs; whnf); (with_reducible assumption); rfl; (conv => whnf)) | (refine ⟨⟨by omega, by omega⟩, ?_⟩; (conv => whnf))))
  exact ⟨rfl, _, (hM1.trans hM).trans (Moves.put hM.inn (.inl (by rw [hP.cell]; simp)) _), ⟨hwf'.sz, ⟨(by decide : (0 : Int) ≤ 0), (by decide : (0 : Int) ≤ 9223372036854775807)⟩, hwf'.wr, hwf'.ord, hwf'.fr, hwf'.inr, hwf'.nod⟩, ms, mf, _, lS, lF, G, hP.nums false 0 false s.writes⟩
theorem arms {D F : Heap} {b : Nat} {s : DS} (hE : Ext D F) (hD : Dk D b s) (i : Int) (hi : i ≤ 9223372036854775807) :
    FnK Try.prog 39 #[.pointer (some ⟨b, 0, none⟩), .int .i64 i] F (fun v F' => v = .tuple #[] ∧ ∃ D', Moves D F D' F' ∧ Dk D' b { s with armed := decide (i ≥ 0), left := max i 0 }) := by
  obtain ⟨hwf, ms, mf, S, lS, lF, G, hP⟩ := hD
  have hsz := hwf.sz
  refine (arm (hE _ _ hP.cell) (by omega) i).mono ?_
  rintro v F' ⟨rfl, rfl⟩
  exact ⟨rfl, _, Moves.put hE (.inl (by rw [hP.cell]; simp)) _, ⟨hwf.sz, ⟨(by omega : 0 ≤ max i 0), (by omega : max i 0 ≤ 9223372036854775807)⟩, hwf.wr, hwf.ord, hwf.fr, hwf.inr, hwf.nod⟩, ms, mf, S, lS, lF, G, hP.nums _ _ _ _⟩
end Go.Proofs.Ytlkdbmoocajjlaa.Al

/- Disks: two that go together; slices.Equal, exchequerlaw03.few, over what is known of memory. -/
import Derived.Test.YtlkdbmoocajjlaaDskM
namespace Go.Proofs.Ytlkdbmoocajjlaa.Al
open Go Go.Al Go.Proofs Go.RowKit
set_option maxHeartbeats 8000000
set_option maxRecDepth 100000
set_option linter.unusedVariables false
set_option linter.unusedSimpArgs false
theorem slicesEqual (x y : List Int) (A B : Option Addr) (c e : Nat) (F : Heap) (hx : RowAt F A (x.map (.int .i64))) (hy : RowAt F B (y.map (.int .i64))) (hl : x.length ≤ 100000) (hl' : y.length ≤ 100000) :
    FnK Try.prog 11 #[.slice A x.length c, .slice B y.length e] F (fun v F' => v = .bool (x == y) ∧ F' = F) := by
  (refine fn_walk tab_ok Try.func11 rfl rfl rfl rfl ?_; (conv => whnf))
  refine cond_split (fun h => ?_) (fun h => ?_)
  · have hne : x.length ≠ y.length := by
      replace h : ((x.length : Int) != (y.length : Int)) = true := h
      intro e
      rw [e] at h
      simp at h
    (conv => whnf)
    refine ⟨congrArg Value.bool ?_, rfl⟩
    symm
    rw [beq_eq_false_iff_ne]
    intro e
    exact hne (by rw [e])
  · have heq : x.length = y.length := by
      replace h : ((x.length : Int) != (y.length : Int)) = false := h
      have := bne_eq_false_iff_eq.1 h
      omega
    (conv => whnf)
    refine loop_slots [0, 1, 12, 13] (fun k vs F' => ∃ j : Nat, j + k = x.length ∧ vs = [.slice A x.length c, .slice B y.length e, .int .i64 (x.length : Int), .int .i64 (j : Int)] ∧ x.take j = y.take j ∧ F' = F) x.length ⟨0, by omega, rfl, rfl, rfl⟩ ?_
    rintro k vs F2 ρ ⟨j, hjk, rfl, htk, rfl⟩
    (conv => whnf)
    refine cond_split (fun h => ?_) (fun h => ?_)
    · have hj : j < x.length := by have := of_decide_eq_true h; omega
      obtain ⟨ad, rfl⟩ := hx.some (by simp; omega)
      obtain ⟨bd, rfl⟩ := hy.some (by simp; omega)
      have hxj : x[j]? = some x[j] := List.getElem?_eq_getElem hj
      have hyj : y[j]? = some (y[j]'(by omega)) := List.getElem?_eq_getElem (by omega)
      (conv => whnf)
      refine draw_walk tab_ok (by kernel_rfl) [0, 1, 2, 3, 4, 5, 6, 7, 8] (by kernel_rfl) ?_
      (conv => whnf)
      refine ⟨⟨by omega, by omega⟩, ?_⟩
      (conv => whnf)
      refine load_step (v := .int .i64 x[j]) ?_ ?_
      · show F2.cell? (ad.add (Int.toNat (j : Int) * 1)) = _
        rw [Int.toNat_natCast, Nat.mul_one]
        exact hx.cell (by simp [hxj])
      (conv => whnf)
      refine ⟨⟨by omega, by omega⟩, ?_⟩
      (conv => whnf)
      refine load_step (v := .int .i64 (y[j]'(by omega))) ?_ ?_
      · show F2.cell? (bd.add (Int.toNat (j : Int) * 1)) = _
        rw [Int.toNat_natCast, Nat.mul_one]
        exact hy.cell (by simp [hyj])
      (conv => whnf)
      refine cond_split (fun h => ?_) (fun h => ?_)
      · (conv => whnf)
        refine ⟨congrArg Value.bool ?_, rfl⟩
        symm
        rw [beq_eq_false_iff_ne]
        rintro rfl
        simp at h
      · (conv => whnf)
        refine ⟨k - 1, by omega, j + 1, by omega, ?_, ?_, rfl⟩
        · have hw : IntKind.i64.wrap ((j : Int) + 1) = ((j + 1 : Nat) : Int) := by rw [IntKind.wrap_i64]; omega
          rw [← hw]
          rfl
        · have h := bne_eq_false_iff_eq.1 h
          rw [List.take_add_one, List.take_add_one, hxj, hyj, h, htk]
    · have hj : j = x.length := by have := of_decide_eq_false h; omega
      subst hj
      have hxy : x = y := by
        rw [List.take_length] at htk
        rw [htk, heq, List.take_length]
      (conv => whnf)
      exact ⟨congrArg Value.bool (beq_iff_eq.2 hxy).symm, rfl⟩
def fewD (r : DoR) : Bool := decide (r.keep.length ≤ 60)
theorem few1 (r : DoR) (F : Heap) : FnK Try.prog 34 #[.agg (doC r).toArray] F (fun v F' => v = .bool (!fewD r) ∧ Ext F F') := by
  obtain ⟨op, i, x, keep, A, c⟩ := r
  have hf : fewD ⟨op, i, x, keep, A, c⟩ = decide (keep.length ≤ 60) := rfl
  generalize fewD ⟨op, i, x, keep, A, c⟩ = q at hf
  (refine fn_walk tab_ok Try.func34 rfl rfl rfl rfl ?_; (conv => whnf))
  refine new_step (.cells #[.int .i64 op, .int .i64 i, .int .u8 x.toNat, .slice A keep.length c] 34) rfl fun p h0_p => ?_
  have hE_p := Ext.new h0_p (.cells #[.int .i64 op, .int .i64 i, .int .u8 x.toNat, .slice A keep.length c] 34)
  have hB_p := Heap.put_same F p (.cells #[.int .i64 op, .int .i64 i, .int .u8 x.toNat, .slice A keep.length c] 34)
  generalize F.put p _ = F1 at hE_p hB_p ⊢
  ((conv => whnf); repeat (first | (apply load_at; (conv => lhs; whnf); (with_reducible assumption); rfl; (conv => whnf)) | (apply load_at; (conv => lhs; rw [add_plain, add_plain]); (with_reducible assumption); rfl; (conv => whnf)) | (apply loads_at; (conv => lhs; whnf); (with_reducible assumption); rfl; (conv => whnf)) | (refine ⟨⟨by omega, by omega⟩, ?_⟩; (conv => whnf))))
  refine ⟨congrArg Value.bool ?_, hE_p⟩
  show decide ((keep.length : Int) > 60) = !q
  rw [hf, Bool.eq_iff_iff]
  simp
  omega
theorem indexD (rs : List DoR) (A : Option Addr) (c : Nat) (F : Heap) (hr : RowAt F A (rowS doC rs)) (hl : rs.length ≤ 1000) :
    FnK Try.prog 69 #[.slice A rs.length c, .func (.func 34) #[] #[]] F (fun v F' => (∃ r : Int, v = .int .i64 r ∧ decide (r ≥ 0) = !rs.all fewD) ∧ Ext F F') := by
  (refine fn_walk tab_ok Try.func69 rfl rfl rfl rfl ?_; (conv => whnf))
  refine loop_slots [0, 1, 7, 8] (fun k vs F' => ∃ j : Nat, j + k = rs.length ∧ vs = [.slice A rs.length c, .func (.func 34) #[] #[], .int .i64 (rs.length : Int), .int .i64 (j : Int)] ∧ (rs.take j).all fewD = true ∧ Ext F F') rs.length ⟨0, by omega, rfl, rfl, Ext.refl _⟩ ?_
  rintro k vs F2 ρ ⟨j, hjk, rfl, hall, hE2⟩
  (conv => whnf)
  refine cond_split (fun h => ?_) (fun h => ?_)
  · have hj : j < rs.length := by have := of_decide_eq_true h; omega
    obtain ⟨ad, rfl⟩ := hr.some (by rw [rowS_len doC_len]; omega)
    have hx : rs[j]? = some rs[j] := List.getElem?_eq_getElem hj
    have hf := few1 rs[j]
    have hz : (rs.take (j + 1)).all fewD = fewD rs[j] := by
      rw [List.take_add_one, hx, List.all_append, hall]
      simp
    have hz2 : fewD rs[j] = false → rs.all fewD = false := fun e => by
      rw [← Bool.not_eq_true, List.all_eq_true]
      intro h
      rw [h _ (List.getElem_mem hj)] at e
      cases e
    have hL : ∀ K : Value → Prop, K (.agg (doC rs[j]).toArray) → LoadsK F2 (ad.add (Int.toNat (j : Int) * 4)) 4 K := fun K hk => rowS_loads doC_len (by decide) (hr.mono hE2) hx hk
    generalize fewD rs[j] = z at hf hz hz2
    generalize rs[j] = r at hf hL
    (conv => whnf)
    refine ⟨⟨by omega, by omega⟩, ?_⟩
    (conv => whnf)
    refine hL _ ?_
    (conv => whnf)
    refine call_of (hf F2) ?_
    rintro v F3 ⟨rfl, hE3⟩
    replace hE3 := hE2.trans hE3
    cases z with
    | false =>
      have := hz2 rfl
      (conv => whnf)
      refine ⟨⟨(j : Int), rfl, ?_⟩, hE3⟩
      rw [this]
      simp
    | true =>
      (conv => whnf)
      refine ⟨k - 1, by omega, j + 1, by omega, ?_, hz, hE3⟩
      have hw : IntKind.i64.wrap ((j : Int) + 1) = ((j + 1 : Nat) : Int) := by rw [IntKind.wrap_i64]; omega
      rw [← hw]
      rfl
  · have hj : j = rs.length := by have := of_decide_eq_false h; omega
    subst hj
    rw [List.take_length] at hall
    (conv => whnf)
    exact ⟨⟨-1, rfl, by rw [hall]; rfl⟩, hE2⟩
def fewL (rs : List DoR) : Bool := decide (rs.length ≤ 60) && rs.all fewD
theorem few (rs : List DoR) (A : Option Addr) (c : Nat) (F : Heap) (hr : RowAt F A (rowS doC rs)) :
    FnK Try.prog 9 #[.slice A rs.length c] F (fun v F' => v = .bool (fewL rs) ∧ Ext F F') := by
  have hc : rs.length ≤ 60 → FnK Try.prog 33 #[.slice A rs.length c, .func (.func 34) #[] #[]] F (fun v F' => v = .bool (!rs.all fewD) ∧ Ext F F') := fun hl => by
    have hi := indexD rs A c F hr (by omega)
    (refine fn_walk tab_ok Try.func33 rfl rfl rfl rfl ?_; (conv => whnf))
    refine call_of hi ?_
    rintro v F1 ⟨⟨r, rfl, hr'⟩, hE⟩
    (conv => whnf)
    exact ⟨congrArg Value.bool hr', hE⟩
  have hw : fewL rs = (decide (rs.length ≤ 60) && rs.all fewD) := rfl
  generalize fewL rs = w at hw
  generalize rs.all fewD = z at hc hw
  (refine fn_walk tab_ok Try.func9 rfl rfl rfl rfl ?_; (conv => whnf))
  refine cond_split (fun h => ?_) (fun h => ?_)
  · have h : decide ((rs.length : Int) ≤ 60) = true := h
    have h1 : rs.length ≤ 60 := by have := of_decide_eq_true h; omega
    rw [decide_eq_true h1, Bool.true_and] at hw
    (conv => whnf)
    refine call_of (hc h1) ?_
    rintro v F1 ⟨rfl, hE⟩
    (conv => whnf)
    exact ⟨congrArg Value.bool ((Bool.not_not z).trans hw.symm), hE⟩
  · have h : decide ((rs.length : Int) ≤ 60) = false := h
    have h1 : ¬ rs.length ≤ 60 := by have := of_decide_eq_false h; omega
    rw [decide_eq_false h1, Bool.false_and] at hw
    (conv => whnf)
    exact ⟨congrArg Value.bool hw.symm, Ext.refl _⟩
/-- Two things, each in its own part of memory. -/
structure Both (F D X : Heap) (b xb : Nat) (s : DS) (r : RS) : Prop where
  d : Ext D F
  x : Ext X F
  dk : Dk D b s
  rk : Rk X xb r
  ap : Apart D X
/-- What stands apart from both stays. -/
def Steps (F D X F' D' X' : Heap) : Prop := ∀ R, Ext R F → Apart D R → Apart X R → Ext R F' ∧ Apart D' R ∧ Apart X' R
theorem Steps.refl (F D X : Heap) : Steps F D X F D X := fun R h1 h2 h3 => ⟨h1, h2, h3⟩
theorem Steps.trans {F D X F1 D1 X1 F2 D2 X2 : Heap} (h : Steps F D X F1 D1 X1) (k : Steps F1 D1 X1 F2 D2 X2) : Steps F D X F2 D2 X2 := fun R h1 h2 h3 => by
  obtain ⟨a, b, c⟩ := h R h1 h2 h3
  exact k R a b c
theorem Both.onD {F D X F' D' : Heap} {b xb : Nat} {s s' : DS} {r : RS} (h : Both F D X b xb s r) (hM : Moves D F D' F') (hk : Dk D' b s') : Both F' D' X b xb s' r ∧ Steps F D X F' D' X :=
  ⟨⟨hM.inn, hM.keep h.x h.ap, hk, h.rk, hM.apart h.x h.ap⟩, fun R h1 h2 h3 => ⟨hM.keep h1 h2, hM.apart h1 h2, h3⟩⟩
theorem Both.onX {F D X F' X' : Heap} {b xb : Nat} {s : DS} {r r' : RS} (h : Both F D X b xb s r) (hM : Moves X F X' F') (hk : Rk X' xb r') : Both F' D X' b xb s r' ∧ Steps F D X F' D X' :=
  ⟨⟨hM.keep h.d h.ap.symm, hM.inn, h.dk, hk, (hM.apart h.d h.ap.symm).symm⟩, fun R h1 h2 h3 => ⟨hM.keep h1 h3, h2, hM.apart h1 h3⟩⟩
theorem Both.ext {F D X F' : Heap} {b xb : Nat} {s : DS} {r : RS} (h : Both F D X b xb s r) (hE : Ext F F') : Both F' D X b xb s r ∧ Steps F D X F' D X :=
  ⟨⟨h.d.trans hE, h.x.trans hE, h.dk, h.rk, h.ap⟩, fun R h1 h2 h3 => ⟨h1.trans hE, h2, h3⟩⟩
/-- A block of one's own stands apart from what was there. -/
theorem side_ext {R F F' : Heap} (hR : Ext R F) {p : Nat} {o : Obj} (hE : Ext F F') (hp : F' p = some o) : Ext (R.put p o) F' := fun c u hc => by
  by_cases e : c = p
  · subst e; rw [Heap.put_same] at hc; rw [hp]; exact hc
  · rw [Heap.put_other _ _ e] at hc; exact hE _ _ (hR _ _ hc)
theorem side_apart {R D F : Heap} (hA : Apart D R) (hD : Ext D F) {p : Nat} (hp : F p = none) (o : Obj) : Apart D (R.put p o) := fun c hc => by
  rw [Heap.put_other _ _ (fun e => by subst e; exact hc (hD.none hp))]; exact hA c hc
theorem only_apart {D F G : Heap} (hD : Ext D F) {p : Nat} (hp : F p = none) : Apart D (G.only p) := fun c hc => by
  unfold Heap.only
  rw [if_neg (fun e => by subst e; exact hc (hD.none hp))]
theorem rwriteSec {D F F0 : Heap} {b : Nat} {r : RS} {u : Value} (x : UInt8) (hE : Ext D F0) (hD : Rk D b r) (hr : NewRow F0 F u (List.replicate 256 x)) (hE2 : Ext F0 F) (i : Int) (hw : r.done < 1000000000) :
    FnK Try.prog 35 #[.pointer (some ⟨b, 0, none⟩), .int .i64 i, u] F (fun v F' => v = .int .i64 (rwriteE r i (List.replicate 256 x)) ∧ ∃ D', Moves D F0 D' F' ∧ Rk D' b (rwriteS r i (List.replicate 256 x))) := by
  obtain ⟨R, A, c, rfl, hc, hR, hA, hrow⟩ := newRow_apart hE hr
  have hM := Moves.ext hE hE2
  refine (rwrite hM.inn hD hR hA (List.replicate 256 x) A c hrow (by rw [List.length_replicate]; decide) i hw).mono ?_
  rintro v F' ⟨rfl, D', hM', hD'⟩
  exact ⟨rfl, D', hM.trans hM', hD'⟩
end Go.Proofs.Ytlkdbmoocajjlaa.Al

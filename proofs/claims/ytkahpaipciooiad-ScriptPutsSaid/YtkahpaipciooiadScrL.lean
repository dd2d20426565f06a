/- The contracts of slices.EqualFunc of events, of the laws' same, and of exchequerplain.Light. -/
import Derived.Test.YtkahpaipciooiadScrI
import Derived.Test.YtkahpaipciooiadScrC
namespace Go.Proofs.Ytkahpaipciooiad.Al
open Go Go.Al Go.Proofs Go.RowKit
set_option maxHeartbeats 8000000
set_option maxRecDepth 100000
set_option linter.unusedVariables false
set_option linter.unusedSimpArgs false
abbrev sameF : Value := .func (.func 33) #[] #[]
theorem equalF (rs ss : List ER) (A B : Option Addr) (c c' : Nat) (F : Heap) (hr : RowAt F A (evsV rs)) (hs : RowAt F B (evsV ss)) (hor : ∀ r ∈ rs, EvOk F r) (hos : ∀ r ∈ ss, EvOk F r) (hkr : ∀ r ∈ rs, r.e.ks.length ≤ 1000) (hks : ∀ r ∈ ss, r.e.ks.length ≤ 1000) (hl : rs.length ≤ 50000) (hl' : ss.length ≤ 50000) :
    FnK Try.prog 49 #[.slice A rs.length c, .slice B ss.length c', sameF] F (fun v F' => (∃ z, v = .bool z ∧ (z = true ↔ rs.map (·.e) = ss.map (·.e))) ∧ Ext F F') := by
  (refine fn_walk tab_ok Try.func49 rfl rfl rfl rfl ?_; (conv => whnf))
  refine cond_split (fun h => ?_) (fun h => ?_)
  · have h : ((rs.length : Int) != (ss.length : Int)) = true := h
    have hne : rs.length ≠ ss.length := fun e => by rw [e] at h; simp at h
    (conv => whnf)
    refine ⟨⟨false, rfl, ?_⟩, Ext.refl F⟩
    constructor
    · intro h; cases h
    · intro h
      have := congrArg List.length h
      rw [List.length_map, List.length_map] at this
      exact absurd this hne
  have hlen : rs.length = ss.length := by
    have h : ((rs.length : Int) != (ss.length : Int)) = false := h
    have := bne_eq_false_iff_eq.1 h
    omega
  (conv => whnf)
  refine loop_slots [1, 2, 15, 16, 17] (fun mm vs F' => ∃ j : Nat, j + mm = rs.length ∧ vs = [.slice B ss.length c', sameF, .slice A rs.length c, .int .i64 (rs.length : Int), .int .i64 (j : Int)] ∧ (rs.take j).map (·.e) = (ss.take j).map (·.e) ∧ Ext F F') rs.length ⟨0, by omega, rfl, rfl, Ext.refl F⟩ ?_
  rintro mm vs F2 ρ ⟨j, hjm, rfl, heq, hE⟩
  (conv => whnf)
  refine cond_split (fun h => ?_) (fun h => ?_)
  · have hj : j < rs.length := by have := of_decide_eq_true h; omega
    have hj' : j < ss.length := by omega
    obtain ⟨ad, rfl⟩ := hr.some (by rw [evsV_len]; omega)
    obtain ⟨bd, rfl⟩ := hs.some (by rw [evsV_len]; omega)
    have hx : rs[j]? = some rs[j] := List.getElem?_eq_getElem hj
    have hy : ss[j]? = some ss[j] := List.getElem?_eq_getElem hj'
    have hLr := fun (K : Value → Prop) => ev_load (K := K) (hr.mono hE) hj
    have hLs := fun G (hG : Ext F G) (K : Value → Prop) => ev_load (K := K) (hs.mono hG) hj'
    have hev := hor rs[j] (List.getElem_mem hj)
    have hfv := hos ss[j] (List.getElem_mem hj')
    have k1 := hkr rs[j] (List.getElem_mem hj)
    have k2 := hks ss[j] (List.getElem_mem hj')
    have st : ((rs.take (j + 1)).map (·.e) = (ss.take (j + 1)).map (·.e)) ↔ rs[j].e = ss[j].e := by
      rw [List.take_add_one, List.take_add_one, hx, hy, List.map_append, List.map_append, heq]
      simp
    have no : rs[j].e ≠ ss[j].e → ¬ rs.map (·.e) = ss.map (·.e) := by
      intro h e
      apply h
      have := congrArg (fun l => l[j]?) e
      simp only [List.getElem?_map, hx, hy, Option.map_some, Option.some.injEq] at this
      exact this
    generalize rs[j] = r at hev k1 st no hLr
    generalize ss[j] = s at hfv k2 st no hLs
    obtain ⟨⟨k, n, bs, ks⟩, A1, c1, B1, cc1⟩ := r
    obtain ⟨⟨k', n', bs', ks'⟩, A2, c2, B2, cc2⟩ := s
    dsimp only at k1 k2 st no
    obtain ⟨a1, a2, a3⟩ := hev
    obtain ⟨b1, b2, b3⟩ := hfv
    dsimp only at a1 a2 a3 b1 b2 b3
    have hsame := fun G (hG : Ext F G) => rsame k n bs ks k' n' bs' ks' A1 c1 B1 cc1 A2 c2 B2 cc2 G (a1.mono hG) (a2.mono hG) (b1.mono hG) (b2.mono hG) k1 k2
    (conv => whnf)
    refine ⟨⟨by omega, by omega⟩, ?_⟩
    (conv => whnf)
    refine hLr _ ?_
    (conv => whnf)
    refine new_step zeroE rfl fun u hu => ?_
    have hU := Heap.put_same F2 u zeroE
    have hX := fun o => hE.trans (ext_put_put hu (o := zeroE) (o' := o))
    generalize F2.put u zeroE = F3 at hU hX ⊢
    (conv => whnf)
    refine store_step u 0 _ (evC k n (.slice A1 bs.length c1) (.slice B1 ks.length cc1)) rfl hU rfl rfl (.inl (Nat.le_refl 0)) (os4 _ _ _ _ _ _ _ _) ?_
    have hU := Heap.put_same F3 u (evO k n (.slice A1 bs.length c1) (.slice B1 ks.length cc1))
    replace hX := hX (evO k n (.slice A1 bs.length c1) (.slice B1 ks.length cc1))
    generalize F3.put u _ = F4 at hU hX ⊢
    (conv => whnf)
    refine ⟨⟨by omega, by omega⟩, ?_⟩
    (conv => whnf)
    refine hLs _ hX _ ?_
    (conv => whnf)
    refine new_step zeroE rfl fun w hw => ?_
    have hW := Heap.put_same F4 w zeroE
    have hY := fun o => ext_put_put hw (o := zeroE) (o' := o)
    generalize F4.put w zeroE = F5 at hW hY ⊢
    (conv => whnf)
    refine store_step w 0 _ (evC k' n' (.slice A2 bs'.length c2) (.slice B2 ks'.length cc2)) rfl hW rfl rfl (.inl (Nat.le_refl 0)) (os4 _ _ _ _ _ _ _ _) ?_
    have hW := Heap.put_same F5 w (evO k' n' (.slice A2 bs'.length c2) (.slice B2 ks'.length cc2))
    replace hY := hY (evO k' n' (.slice A2 bs'.length c2) (.slice B2 ks'.length cc2))
    generalize F5.put w _ = F6 at hW hY ⊢
    have hU6 := hY _ _ hU
    have hE6 := hX.trans hY
    (conv => whnf)
    refine ⟨⟨_, _, _, hU6, rfl, Nat.le_refl 4, ?_⟩⟩
    (conv => whnf)
    refine ⟨⟨_, _, _, hW, rfl, Nat.le_refl 4, ?_⟩⟩
    (conv => whnf)
    refine call_of (hsame F6 hE6) ?_
    rintro v F7 ⟨⟨z, rfl, hz⟩, hE7⟩
    replace hE7 := hE6.trans hE7
    cases z with
    | false =>
      have hn := no fun e => by have := hz.2 e; cases this
      (conv => whnf)
      exact ⟨⟨false, rfl, ⟨fun h => (by cases h), fun h => absurd h hn⟩⟩, hE7⟩
    | true =>
      have hst := st.2 (hz.1 rfl)
      (conv => whnf)
      refine ⟨mm - 1, by omega, j + 1, by omega, ?_, hst, hE7⟩
      have hw : IntKind.i64.wrap ((j : Int) + 1) = ((j + 1 : Nat) : Int) := by rw [IntKind.wrap_i64]; omega
      rw [← hw]
      rfl
  · have hj : j = rs.length := by have := of_decide_eq_false h; omega
    subst hj
    rw [List.take_length, hlen, List.take_length] at heq
    (conv => whnf)
    exact ⟨⟨true, rfl, ⟨fun _ => heq, fun _ => rfl⟩⟩, hE⟩
theorem sameL (rs ss : List ER) (A B : Option Addr) (c c' : Nat) (F : Heap) (hr : RowAt F A (evsV rs)) (hs : RowAt F B (evsV ss)) (hor : ∀ r ∈ rs, EvOk F r) (hos : ∀ r ∈ ss, EvOk F r) (hkr : ∀ r ∈ rs, r.e.ks.length ≤ 1000) (hks : ∀ r ∈ ss, r.e.ks.length ≤ 1000) (hl : rs.length ≤ 50000) (hl' : ss.length ≤ 50000) :
    FnK Try.prog 24 #[.slice A rs.length c, .slice B ss.length c'] F (fun v F' => (∃ z, v = .bool z ∧ (z = true ↔ rs.map (·.e) = ss.map (·.e))) ∧ Ext F F') := by
  have he := equalF rs ss A B c c' F hr hs hor hos hkr hks hl hl'
  (refine fn_walk tab_ok Try.func24 rfl rfl rfl rfl ?_; (conv => whnf))
  refine call_of he ?_
  rintro v F1 ⟨⟨z, rfl, hz⟩, hE⟩
  (conv => whnf)
  exact ⟨⟨z, rfl, hz⟩, hE⟩
def lightB (r : ER) : Bool := decide (r.e.bs.length ≤ 600) && decide (r.e.ks.length ≤ 200)
theorem light1 (r : ER) (F : Heap) : FnK Try.prog 53 #[.agg (evA r)] F (fun v F' => v = .bool (!lightB r) ∧ Ext F F') := by
  obtain ⟨⟨k, n, bs, ks⟩, A, c, B, cc⟩ := r
  have hf : lightB ⟨⟨k, n, bs, ks⟩, A, c, B, cc⟩ = (decide (bs.length ≤ 600) && decide (ks.length ≤ 200)) := rfl
  generalize lightB ⟨⟨k, n, bs, ks⟩, A, c, B, cc⟩ = q at hf
  (refine fn_walk tab_ok Try.func53 rfl rfl rfl rfl ?_; (conv => whnf))
  refine new_step (evO k n (.slice A bs.length c) (.slice B ks.length cc)) rfl fun b hb => ?_
  have hE := Ext.new hb (evO k n (.slice A bs.length c) (.slice B ks.length cc))
  have hB := Heap.put_same F b (evO k n (.slice A bs.length c) (.slice B ks.length cc))
  generalize F.put b _ = F1 at hE hB ⊢
  (conv => whnf)
  refine load_blk hB rfl rfl ?_
  (conv => whnf)
  refine cond_split (fun h => ?_) (fun h => ?_)
  · have h : (!decide (((bs.length : Nat) : Int) > 600)) = true := h
    have h1 : bs.length ≤ 600 := by simp at h; omega
    (conv => whnf)
    refine load_blk hB rfl rfl ?_
    (conv => whnf)
    refine ⟨congrArg Value.bool ?_, hE⟩
    show decide (((ks.length : Nat) : Int) > 200) = !q
    rw [hf, decide_eq_true h1, Bool.true_and, Bool.eq_iff_iff]
    simp
    omega
  · have h : (!decide (((bs.length : Nat) : Int) > 600)) = false := h
    have h1 : ¬ bs.length ≤ 600 := by simp at h; omega
    (conv => whnf)
    refine ⟨congrArg Value.bool ?_, hE⟩
    rw [hf, decide_eq_false h1]
    rfl
theorem indexE (rs : List ER) (A : Option Addr) (c : Nat) (F : Heap) (hr : RowAt F A (evsV rs)) (hl : rs.length ≤ 1000) :
    FnK Try.prog 70 #[.slice A rs.length c, .func (.func 53) #[] #[]] F (fun v F' => (∃ r : Int, v = .int .i64 r ∧ decide (r ≥ 0) = !rs.all lightB) ∧ Ext F F') := by
  (refine fn_walk tab_ok Try.func70 rfl rfl rfl rfl ?_; (conv => whnf))
  refine loop_slots [0, 1, 7, 8] (fun k vs F' => ∃ j : Nat, j + k = rs.length ∧ vs = [.slice A rs.length c, .func (.func 53) #[] #[], .int .i64 (rs.length : Int), .int .i64 (j : Int)] ∧ (rs.take j).all lightB = true ∧ Ext F F') rs.length ⟨0, by omega, rfl, rfl, Ext.refl F⟩ ?_
  rintro k vs F2 ρ ⟨j, hjk, rfl, hall, hE2⟩
  (conv => whnf)
  refine cond_split (fun h => ?_) (fun h => ?_)
  · have hj : j < rs.length := by have := of_decide_eq_true h; omega
    obtain ⟨ad, rfl⟩ := hr.some (by rw [evsV_len]; omega)
    have hx : rs[j]? = some rs[j] := List.getElem?_eq_getElem hj
    have hf := light1 rs[j]
    have hz : (rs.take (j + 1)).all lightB = lightB rs[j] := by
      rw [List.take_add_one, hx, List.all_append, hall]
      simp
    have hz2 : lightB rs[j] = false → rs.all lightB = false := fun e => by
      rw [← Bool.not_eq_true, List.all_eq_true]
      intro h
      rw [h _ (List.getElem_mem hj)] at e
      cases e
    have hL := fun (K : Value → Prop) => ev_load (K := K) (hr.mono hE2) hj
    generalize lightB rs[j] = z at hf hz hz2
    generalize rs[j] = r at hf hL
    (conv => whnf)
    refine ⟨⟨by omega, by omega⟩, ?_⟩
    (conv => whnf)
    refine hL _ ?_
    (conv => whnf)
    refine call_of (hf F2) ?_
    rintro v F3 ⟨rfl, hE3⟩
    replace hE3 := hE2.trans hE3
    cases z with
    | false =>
      have := hz2 rfl
      (conv => whnf)
      refine ⟨⟨(j : Int), rfl, ?_⟩, hE3⟩
      rw [this]
      simp
    | true =>
      (conv => whnf)
      refine ⟨k - 1, by omega, j + 1, by omega, ?_, hz, hE3⟩
      have hw : IntKind.i64.wrap ((j : Int) + 1) = ((j + 1 : Nat) : Int) := by rw [IntKind.wrap_i64]; omega
      rw [← hw]
      rfl
  · have hj : j = rs.length := by have := of_decide_eq_false h; omega
    subst hj
    rw [List.take_length] at hall
    (conv => whnf)
    exact ⟨⟨-1, rfl, by rw [hall]; rfl⟩, hE2⟩
def lightL (rs : List ER) : Bool := decide (rs.length ≤ 40) && rs.all lightB
theorem light (rs : List ER) (A : Option Addr) (c : Nat) (F : Heap) (hr : RowAt F A (evsV rs)) :
    FnK Try.prog 27 #[.slice A rs.length c, .int .i64 40] F (fun v F' => v = .bool (lightL rs) ∧ Ext F F') := by
  have hc : rs.length ≤ 40 → FnK Try.prog 52 #[.slice A rs.length c, .func (.func 53) #[] #[]] F (fun v F' => v = .bool (!rs.all lightB) ∧ Ext F F') := by
    intro h
    have hi := indexE rs A c F hr (by omega)
    (refine fn_walk tab_ok Try.func52 rfl rfl rfl rfl ?_; (conv => whnf))
    refine call_of hi ?_
    rintro v F1 ⟨⟨r, rfl, hr'⟩, hE⟩
    (conv => whnf)
    exact ⟨congrArg Value.bool hr', hE⟩
  have hll : lightL rs = (decide (rs.length ≤ 40) && rs.all lightB) := rfl
  generalize rs.all lightB = z at hc hll
  generalize lightL rs = y at hll
  (refine fn_walk tab_ok Try.func27 rfl rfl rfl rfl ?_; (conv => whnf))
  refine cond_split (fun h => ?_) (fun h => ?_)
  · have h : decide ((rs.length : Int) ≤ 40) = true := h
    have h1 : rs.length ≤ 40 := by have := of_decide_eq_true h; omega
    rw [decide_eq_true h1, Bool.true_and] at hll
    subst hll
    (conv => whnf)
    refine call_of (hc h1) ?_
    rintro v F1 ⟨rfl, hE⟩
    (conv => whnf)
    exact ⟨congrArg Value.bool (Bool.not_not y), hE⟩
  · have h : decide ((rs.length : Int) ≤ 40) = false := h
    have h1 : ¬ rs.length ≤ 40 := by have := of_decide_eq_false h; omega
    rw [decide_eq_false h1, Bool.false_and] at hll
    subst hll
    (conv => whnf)
    exact ⟨rfl, Ext.refl F⟩
end Go.Proofs.Ytkahpaipciooiad.Al

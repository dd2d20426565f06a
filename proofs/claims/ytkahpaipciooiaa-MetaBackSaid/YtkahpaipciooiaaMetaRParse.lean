/- The contract of the reference's Parse, over what is known of memory. -/
import Derived.Test.YtkahpaipciooiaaMetaParse
namespace Go.Proofs.Ytkahpaipciooiaa.Al
open Go Go.Al Go.Proofs Go.RowKit
set_option maxHeartbeats 8000000
set_option maxRecDepth 100000
set_option linter.unusedVariables false
set_option linter.unusedSimpArgs false
theorem rparse (b : List UInt8) (A : Option Addr) (c : Nat) (F : Heap) (hr : RowAt F A (bytesOf b)) (hl : b.length ≤ 100000) (hc : b.length ≤ c) :
    FnK Try.prog 8 #[.slice A b.length c] F (fun v F' => PR b v F' ∧ Ext F F') := by
  have hw := fun i G hg => rget b A c i G hg hl hc
  (refine fn_walk tab_ok Try.func8 rfl rfl rfl rfl ?_; (conv => whnf))
  refine new_step zeroM rfl fun r hr0 => ?_
  have hE1 := Ext.new hr0 zeroM
  have hR1 := Heap.put_same F r zeroM
  have hoZ : ∀ v ∈ [Value.int .i64 0, .int .i64 0, .int .i64 0, .int .i64 0, .slice none 0 0], v.oneCell' = true := by simp [Value.oneCell']
  generalize F.put r zeroM = F1 at hE1 hR1 ⊢
  (conv => whnf)
  -- what is said when it is refused
  have no : ∀ (F2 : Heap) (env : Nat), ¬ (b.length = 240 ∧ okS b = true) → F2 r = some zeroM → Ext F F2 → (PR b (.tuple #[.agg #[.int .i64 0, .int .i64 0, .int .i64 0, .int .i64 0, .slice none 0 0], .int .i64 4]) F2 ∧ Ext F F2) := by
    intro F2 _ h1 h2 h3
    refine ⟨?_, h3⟩
    unfold PR
    rw [if_neg h1]
  refine cond_split (fun h => ?_) (fun h => ?_)
  case refine_1 =>
    have h1 : b.length ≠ 240 := by
      have h : ((b.length : Int) != 240) = true := h
      intro e
      rw [e] at h
      cases h
    (conv => whnf)
    refine store_step r 0 _ _ rfl hR1 rfl rfl (.inl (Nat.le_refl 0)) hoZ ?_
    (conv => whnf)
    refine res_cells tab_ok rfl rfl (Heap.put_same _ _ _) rfl ?_
    (conv => whnf)
    refine no _ 0 (fun h => h1 h.1) (Heap.put_same _ _ _) ?_
    exact hE1.put hr0 _
  have h240 : b.length = 240 := by
    have h : ((b.length : Int) != 240) = false := h
    have := bne_eq_false_iff_eq.1 h
    omega
  obtain ⟨ad, rfl⟩ := hr.some (by simp [bytesOf]; omega)
  have hb4 : b[4]? = some (b.getD 4 0) := by rw [List.getD_eq_getElem?_getD, List.getElem?_eq_getElem (by omega)]; rfl
  have hb5 : b[5]? = some (b.getD 5 0) := by rw [List.getD_eq_getElem?_getD, List.getElem?_eq_getElem (by omega)]; rfl
  have hv4 : (bytesOf b)[4]? = some (.int .u8 (b.getD 4 0).toNat) := by unfold bytesOf; rw [List.getElem?_map, hb4]; rfl
  have hv5 : (bytesOf b)[5]? = some (.int .u8 (b.getD 5 0).toNat) := by unfold bytesOf; rw [List.getElem?_map, hb5]; rfl
  have hd4 : IntKind.i64.wrap ((b.getD 4 0).toNat : Int) = dS b := by
    have := (b.getD 4 0).toNat_lt
    rw [IntKind.wrap_i64]
    unfold dS
    omega
  have hmin : (if (20 : Int) < IntKind.i64.wrap ((b.getD 5 0).toNat : Int) then 20 else IntKind.i64.wrap ((b.getD 5 0).toNat : Int)) = ((lenS b : Nat) : Int) := by
    have := (b.getD 5 0).toNat_lt
    have : IntKind.i64.wrap ((b.getD 5 0).toNat : Int) = ((b.getD 5 0).toNat : Int) := by rw [IntKind.wrap_i64]; omega
    rw [this]
    unfold lenS
    split <;> omega
  have hlen : lenS b ≤ 20 := Nat.min_le_right _ _
  (conv => whnf)
  refine ⟨⟨by omega, by omega⟩, ?_⟩
  (conv => whnf)
  refine load_step (v := .int .u8 (b.getD 4 0).toNat) ?_ ?_
  · show F1.cell? (ad.add 4) = _
    exact (hr.mono hE1).cell hv4
  (conv => whnf)
  refine new_step zeroM rfl fun p hp => ?_
  have hpr : p ≠ r := fun e => by rw [e, hR1] at hp; cases hp
  have hFp : F p = none := by
    cases e : F p with
    | none => rfl
    | some o => rw [hE1 p o e] at hp; cases hp
  have hS0 : PS F (F1.put p zeroM) r p 0 0 0 0 [] (.slice none 0 0) := ⟨Heap.put_same _ _ _, by rw [Heap.put_other _ _ hpr.symm]; exact hR1, hFp, hr0, hpr.symm, Mine.nil _ _ _ _ (hE1.put hFp _)⟩
  generalize F1.put p zeroM = F2 at hS0 ⊢
  have hoD : ∀ v ∈ [Value.int .i64 (IntKind.i64.wrap ((b.getD 4 0).toNat : Int)), .int .i64 0, .int .i64 0, .int .i64 0, .slice none 0 0], v.oneCell' = true := by simp [Value.oneCell']
  (conv => whnf)
  refine store_step p 0 _ _ rfl hS0.cells (congrArg (fun z => #[Value.int .i64 z, .int .i64 0, .int .i64 0, .int .i64 0, .slice none 0 0]) hd4) rfl (.inl (Nat.le_refl 0)) hoD ?_
  have hS1 := hS0.put (dS b) 0 0 0
  change PS F (F2.put p (.cells #[Value.int .i64 (dS b), .int .i64 0, .int .i64 0, .int .i64 0, .slice none 0 0] 26)) r p _ _ _ _ _ _ at hS1
  generalize F2.put p _ = F3 at hS1 ⊢
  have hr3 := hr.mono hS1.mine.ext
  (conv => whnf)
  have o1 : ∀ z : Int, ∀ v ∈ [Value.int .i64 z], v.oneCell' = true := by simp [Value.oneCell']
  refine call_of (hw 6 F3 hr3 (by omega)) ?_
  rintro v F3 ⟨rfl, rfl⟩
  (conv => whnf)
  refine store_step p 1 _ #[.int .i64 (dS b), .int .i64 (wS b 6), .int .i64 0, .int .i64 0, .slice none 0 0] rfl hS1.cells rfl rfl (.inl (Nat.le_refl 0)) (o1 _) ?_
  have hS2 := hS1.put (dS b) (wS b 6) 0 0
  generalize F3.put p _ = F4 at hS2 ⊢
  have hr4 := hr.mono hS2.mine.ext
  (conv => whnf)
  refine call_of (hw 10 _ hr4 (by omega)) ?_
  rintro v F4 ⟨rfl, rfl⟩
  (conv => whnf)
  refine store_step p 2 _ #[.int .i64 (dS b), .int .i64 (wS b 6), .int .i64 (wS b 10), .int .i64 0, .slice none 0 0] rfl hS2.cells rfl rfl (.inl (Nat.le_refl 0)) (o1 _) ?_
  have hS3 := hS2.put (dS b) (wS b 6) (wS b 10) 0
  generalize F4.put p _ = F5 at hS3 ⊢
  have hr5 := hr.mono hS3.mine.ext
  (conv => whnf)
  refine call_of (hw 14 _ hr5 (by omega)) ?_
  rintro v F5 ⟨rfl, rfl⟩
  (conv => whnf)
  refine store_step p 3 _ #[.int .i64 (dS b), .int .i64 (wS b 6), .int .i64 (wS b 10), .int .i64 (wS b 14), .slice none 0 0] rfl hS3.cells rfl rfl (.inl (Nat.le_refl 0)) (o1 _) ?_
  have hS4 := hS3.put (dS b) (wS b 6) (wS b 10) (wS b 14)
  generalize F5.put p _ = F6 at hS4 ⊢
  (conv => whnf)
  have hin : ∀ G j, PS F G r p (dS b) (wS b 6) (wS b 10) (wS b 14) ((dirS b).take j) (.slice none 0 0) → True := fun _ _ _ => trivial
  refine loop_slots [0, 2, 4, 5] (fun k vs F' => ∃ (j : Nat) (S : Value), j + k = lenS b ∧ vs = [.slice (some ad) b.length c, .pointer (some ⟨r, 0, none⟩), .pointer (some ⟨p, 0, none⟩), .int .i64 (j : Int)] ∧ PS F F' r p (dS b) (wS b 6) (wS b 10) (wS b 14) ((dirS b).take j) S) (lenS b) ⟨0, .slice none 0 0, by omega, rfl, hS4⟩ ?_
  rintro m vs F7 ρ ⟨j, S, hjm, rfl, hS⟩
  have hr7 := hr.mono hS.mine.ext
  have hd5 : IntKind.i64.wrap ((b.getD 5 0).toNat : Int) = ((b.getD 5 0).toNat : Int) := by
    have := (b.getD 5 0).toNat_lt
    rw [IntKind.wrap_i64]
    omega
  have out : ∀ (x : Prop), lenS b = min (b.getD 5 0).toNat 20 := fun _ => rfl
  have hend : j = lenS b → PS F F7 r p (dS b) (wS b 6) (wS b 10) (wS b 14) (dirS b) S := by
    intro e
    rw [show (dirS b).take j = dirS b by rw [e, ← dir_len b, List.take_length]] at hS
    exact hS
  (conv => whnf)
  refine ⟨⟨by omega, by omega⟩, ?_⟩
  (conv => whnf)
  refine load_step (v := .int .u8 (b.getD 5 0).toNat) ?_ ?_
  · show F7.cell? (ad.add 5) = _
    exact hr7.cell hv5
  (conv => whnf)
  refine cond_split (fun h => ?_) (fun h => ?_)
  case refine_2 =>
    have h5 : ¬ (j : Int) < ((b.getD 5 0).toNat : Int) := by
      have h : decide ((j : Int) < IntKind.i64.wrap ((b.getD 5 0).toNat : Int)) = false := h
      rw [hd5] at h
      exact of_decide_eq_false h
    have hj : j = lenS b := by have := out True; omega
    have hS := hend hj
    obtain ⟨A', c', rfl, hrow⟩ := hS.len
    have hq : okS b = (mayB (dS b) (wS b 6) (wS b 10) (wS b 14) (dirS b) && (pageS (dS b) (wS b 6) (wS b 10) (wS b 14) (dirS b) == b)) := rfl
    have hdl : (dirS b).length ≤ 1000 := by rw [dir_len]; omega
    (conv => whnf)
    refine ⟨⟨_, _, _, hS.cells, rfl, Nat.le_refl 5, ?_⟩⟩
    (conv => whnf)
    cases hm : mayB (dS b) (wS b 6) (wS b 10) (wS b 14) (dirS b) with
    | false =>
      refine call_of (rputNo (dS b) (wS b 6) (wS b 10) (wS b 14) (dirS b) A' c' _ hrow hdl hm) ?_
      rintro v F9 ⟨rfl, hE9⟩
      have hS9 := hS.mono hE9
      have hbad : ¬ (b.length = 240 ∧ okS b = true) := by rw [hq, hm]; simp
      (conv => whnf)
      refine store_step r 0 _ _ rfl hS9.res rfl rfl (.inl (Nat.le_refl 0)) hoZ ?_
      (conv => whnf)
      refine res_cells tab_ok rfl rfl (Heap.put_same _ _ _) rfl ?_
      (conv => whnf)
      exact no _ 0 hbad (Heap.put_same _ _ _) (hS9.fin _).2
    | true =>
      refine call_of (rputOk (dS b) (wS b 6) (wS b 10) (wS b 14) (dirS b) A' c' _ hrow hm) ?_
      rintro v F9 ⟨⟨pg, rfl, hbs⟩, hE9⟩
      obtain ⟨A5, c5, rfl, hc5, hr5⟩ := hbs
      have hS9 := hS.mono hE9
      have hbe := str_beq (pageS (dS b) (wS b 6) (wS b 10) (wS b 14) (dirS b)) b
      rw [hm, Bool.true_and] at hq
      have hrb := hr.mono hS9.mine.ext
      generalize pageS (dS b) (wS b 6) (wS b 10) (wS b 14) (dirS b) = pg at hbe hq hr5 hc5 ⊢
      rw [← hq] at hbe
      have hgood : okS b = true → b.length = 240 ∧ okS b = true := fun h => ⟨h240, h⟩
      (conv => whnf)
      refine conv_str tab_ok pg rfl rfl rfl rfl rfl hr5 ?_
      (conv => whnf)
      refine conv_str tab_ok b rfl rfl rfl rfl rfl hrb ?_
      have hne : ∀ x : Bool, okS b = x → ((⟨pg.toArray⟩ : ByteArray).toList != (⟨b.toArray⟩ : ByteArray).toList) = !x := by
        rintro x rfl
        rw [← hbe]
        rfl
      (conv => whnf)
      refine cond_split (fun h => ?_) (fun h => ?_)
      · have hok : okS b = false := by
          have h : ((⟨pg.toArray⟩ : ByteArray).toList != (⟨b.toArray⟩ : ByteArray).toList) = true := h
          rw [hne _ rfl] at h
          simpa using h
        (conv => whnf)
        refine store_step r 0 _ _ rfl hS9.res rfl rfl (.inl (Nat.le_refl 0)) hoZ ?_
        (conv => whnf)
        refine res_cells tab_ok rfl rfl (Heap.put_same _ _ _) rfl ?_
        (conv => whnf)
        exact no _ 0 (by rw [hok]; simp) (Heap.put_same _ _ _) (hS9.fin _).2
      · have hok : okS b = true := by
          have h : ((⟨pg.toArray⟩ : ByteArray).toList != (⟨b.toArray⟩ : ByteArray).toList) = false := h
          rw [hne _ rfl] at h
          simpa using h
        have oM : ∀ v ∈ [Value.int .i64 (dS b), .int .i64 (wS b 6), .int .i64 (wS b 10), .int .i64 (wS b 14), .slice A' (dirS b).length c'], v.oneCell' = true := by simp [Value.oneCell']
        (conv => whnf)
        refine ⟨⟨_, _, _, hS9.cells, rfl, Nat.le_refl 5, ?_⟩⟩
        (conv => whnf)
        refine store_step r 0 _ _ rfl hS9.res rfl rfl (.inl (Nat.le_refl 0)) oM ?_
        (conv => whnf)
        refine res_cells tab_ok rfl rfl (Heap.put_same _ _ _) rfl ?_
        (conv => whnf)
        refine ⟨?_, (hS9.fin _).2⟩
        unfold PR
        rw [if_pos ⟨h240, hok⟩]
        exact ⟨A', c', rfl, (hS9.fin _).1⟩
  have h5 : (j : Int) < ((b.getD 5 0).toNat : Int) := by
    have h : decide ((j : Int) < IntKind.i64.wrap ((b.getD 5 0).toNat : Int)) = true := h
    rw [hd5] at h
    exact of_decide_eq_true h
  (conv => whnf)
  refine cond_split (fun h => ?_) (fun h => ?_)
  case refine_2 =>
    have h20 := of_decide_eq_false h
    have hj : j = lenS b := by have := out True; omega
    have hS := hend hj
    obtain ⟨A', c', rfl, hrow⟩ := hS.len
    have hq : okS b = (mayB (dS b) (wS b 6) (wS b 10) (wS b 14) (dirS b) && (pageS (dS b) (wS b 6) (wS b 10) (wS b 14) (dirS b) == b)) := rfl
    have hdl : (dirS b).length ≤ 1000 := by rw [dir_len]; omega
    (conv => whnf)
    refine ⟨⟨_, _, _, hS.cells, rfl, Nat.le_refl 5, ?_⟩⟩
    (conv => whnf)
    cases hm : mayB (dS b) (wS b 6) (wS b 10) (wS b 14) (dirS b) with
    | false =>
      refine call_of (rputNo (dS b) (wS b 6) (wS b 10) (wS b 14) (dirS b) A' c' _ hrow hdl hm) ?_
      rintro v F9 ⟨rfl, hE9⟩
      have hS9 := hS.mono hE9
      have hbad : ¬ (b.length = 240 ∧ okS b = true) := by rw [hq, hm]; simp
      (conv => whnf)
      refine store_step r 0 _ _ rfl hS9.res rfl rfl (.inl (Nat.le_refl 0)) hoZ ?_
      (conv => whnf)
      refine res_cells tab_ok rfl rfl (Heap.put_same _ _ _) rfl ?_
      (conv => whnf)
      exact no _ 0 hbad (Heap.put_same _ _ _) (hS9.fin _).2
    | true =>
      refine call_of (rputOk (dS b) (wS b 6) (wS b 10) (wS b 14) (dirS b) A' c' _ hrow hm) ?_
      rintro v F9 ⟨⟨pg, rfl, hbs⟩, hE9⟩
      obtain ⟨A5, c5, rfl, hc5, hr5⟩ := hbs
      have hS9 := hS.mono hE9
      have hbe := str_beq (pageS (dS b) (wS b 6) (wS b 10) (wS b 14) (dirS b)) b
      rw [hm, Bool.true_and] at hq
      have hrb := hr.mono hS9.mine.ext
      generalize pageS (dS b) (wS b 6) (wS b 10) (wS b 14) (dirS b) = pg at hbe hq hr5 hc5 ⊢
      rw [← hq] at hbe
      have hgood : okS b = true → b.length = 240 ∧ okS b = true := fun h => ⟨h240, h⟩
      (conv => whnf)
      refine conv_str tab_ok pg rfl rfl rfl rfl rfl hr5 ?_
      (conv => whnf)
      refine conv_str tab_ok b rfl rfl rfl rfl rfl hrb ?_
      have hne : ∀ x : Bool, okS b = x → ((⟨pg.toArray⟩ : ByteArray).toList != (⟨b.toArray⟩ : ByteArray).toList) = !x := by
        rintro x rfl
        rw [← hbe]
        rfl
      (conv => whnf)
      refine cond_split (fun h => ?_) (fun h => ?_)
      · have hok : okS b = false := by
          have h : ((⟨pg.toArray⟩ : ByteArray).toList != (⟨b.toArray⟩ : ByteArray).toList) = true := h
          rw [hne _ rfl] at h
          simpa using h
        (conv => whnf)
        refine store_step r 0 _ _ rfl hS9.res rfl rfl (.inl (Nat.le_refl 0)) hoZ ?_
        (conv => whnf)
        refine res_cells tab_ok rfl rfl (Heap.put_same _ _ _) rfl ?_
        (conv => whnf)
        exact no _ 0 (by rw [hok]; simp) (Heap.put_same _ _ _) (hS9.fin _).2
      · have hok : okS b = true := by
          have h : ((⟨pg.toArray⟩ : ByteArray).toList != (⟨b.toArray⟩ : ByteArray).toList) = false := h
          rw [hne _ rfl] at h
          simpa using h
        have oM : ∀ v ∈ [Value.int .i64 (dS b), .int .i64 (wS b 6), .int .i64 (wS b 10), .int .i64 (wS b 14), .slice A' (dirS b).length c'], v.oneCell' = true := by simp [Value.oneCell']
        (conv => whnf)
        refine ⟨⟨_, _, _, hS9.cells, rfl, Nat.le_refl 5, ?_⟩⟩
        (conv => whnf)
        refine store_step r 0 _ _ rfl hS9.res rfl rfl (.inl (Nat.le_refl 0)) oM ?_
        (conv => whnf)
        refine res_cells tab_ok rfl rfl (Heap.put_same _ _ _) rfl ?_
        (conv => whnf)
        refine ⟨?_, (hS9.fin _).2⟩
        unfold PR
        rw [if_pos ⟨h240, hok⟩]
        exact ⟨A', c', rfl, (hS9.fin _).1⟩
  · have hj : j < lenS b := by have := of_decide_eq_true h; have := out True; omega
    have hi : IntKind.i64.wrap (18 + IntKind.i64.wrap (4 * (j : Int))) = ((18 + 4 * j : Nat) : Int) := wrap_at j (by omega)
    have hcw := hw (18 + 4 * j) F7 (hr.mono hS.mine.ext) (by omega)
    rw [← hi] at hcw
    (conv => whnf)
    refine call_of hcw ?_
    rintro v F7 ⟨rfl, rfl⟩
    (conv => whnf)
    refine load_blk hS.cells rfl rfl ?_
    (conv => whnf)
    refine new_step (.cells #[.int .i64 (wS b (18 + 4 * j))] 3) rfl fun g hg => ?_
    (conv => whnf)
    refine dir_append (x := wS b (18 + 4 * j)) rfl rfl rfl hS (by rw [List.length_take]; omega) hg fun s' F8 hP8 hS8 => ?_
    rw [← dir_take b j hj] at hS8
    obtain ⟨A', c', rfl, _⟩ := hS8.len
    have o2 : ∀ v ∈ [Value.slice A' ((dirS b).take (j + 1)).length c'], v.oneCell' = true := by
      intro v hv
      rw [List.mem_singleton.1 hv]
      rfl
    (conv => whnf)
    refine store_step p 4 _ #[.int .i64 (dS b), .int .i64 (wS b 6), .int .i64 (wS b 10), .int .i64 (wS b 14), .slice A' ((dirS b).take (j + 1)).length c'] rfl hP8 rfl rfl (.inl (Nat.le_refl 0)) o2 ?_
    (conv => whnf)
    refine ⟨m - 1, by omega, j + 1, _, by omega, ?_, hS8⟩
    have hw : IntKind.i64.wrap ((j : Int) + 1) = ((j + 1 : Nat) : Int) := by rw [IntKind.wrap_i64]; omega
    rw [← hw]
    rfl
end Go.Proofs.Ytkahpaipciooiaa.Al

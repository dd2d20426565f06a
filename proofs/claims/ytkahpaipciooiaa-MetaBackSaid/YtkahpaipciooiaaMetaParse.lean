/- The contract of meta.Parse, over what is known of memory. -/
import Derived.Test.YtkahpaipciooiaaMetaRSame
namespace Go.Proofs.Ytkahpaipciooiaa.Al
open Go Go.Al Go.Proofs Go.RowKit
set_option maxHeartbeats 8000000
set_option maxRecDepth 100000
set_option linter.unusedVariables false
set_option linter.unusedSimpArgs false
def dS (b : List UInt8) : Int := ((b.getD 4 0).toNat : Int)
def wS (b : List UInt8) (i : Nat) : Int := ((g4 ((b.drop i).take 4) : Nat) : Int)
def lenS (b : List UInt8) : Nat := min (b.getD 5 0).toNat 20
def dirS (b : List UInt8) : List Int := (List.range (lenS b)).map fun i => wS b (18 + 4 * i)
def okS (b : List UInt8) : Bool := mayB (dS b) (wS b 6) (wS b 10) (wS b 14) (dirS b) && (pageS (dS b) (wS b 6) (wS b 10) (wS b 14) (dirS b) == b)
/-- What the parse of a page comes to. -/
def PR (b : List UInt8) (v : Value) (F : Heap) : Prop :=
  if b.length = 240 ∧ okS b = true then ∃ B cc, v = .tuple #[.agg #[.int .i64 (dS b), .int .i64 (wS b 6), .int .i64 (wS b 10), .int .i64 (wS b 14), .slice B (dirS b).length cc], .int .i64 0] ∧ RowAt F B ((dirS b).map (.int .i64))
  else v = .tuple #[.agg #[.int .i64 0, .int .i64 0, .int .i64 0, .int .i64 0, .slice none 0 0], .int .i64 4]
abbrev zeroM : Obj := .cells #[.int .i64 0, .int .i64 0, .int .i64 0, .int .i64 0, .slice none 0 0] 26
abbrev metaO (d f n k : Int) (S : Value) : Obj := .cells #[.int .i64 d, .int .i64 f, .int .i64 n, .int .i64 k, S] 26
/-- A Meta that is being made in block p, its result waiting in block r. -/
structure PS (F0 F : Heap) (r p : Nat) (d f n k : Int) (xs : List Int) (S : Value) : Prop where
  cells : F p = some (metaO d f n k S)
  res : F r = some zeroM
  new : F0 p = none
  rnew : F0 r = none
  ne : r ≠ p
  mine : Mine F0 F S 3 1 xs.length (xs.map (.int .i64))
theorem blk_ne {F : Heap} {S : Value} {n : Nat} {vs : List Value} {q : Nat} {cs : Array Value} {fz : Nat × Nat} (h : Own F S 3 1 n vs) (hq : F q = some (.cells cs 26 fz)) : blk S ≠ some q := by
  intro e
  rcases h.2 with ⟨h1, _⟩ | ⟨b, c, cs', h1, ⟨fz', hb, _⟩, _⟩
  · subst h1; cases e
  · subst h1
    obtain rfl : b = q := Option.some.inj e
    rw [hq] at hb
    injection hb with hb
    injection hb with h1 h2 h3
    cases h2
theorem PS.mono {F0 F G : Heap} {r p : Nat} {d f n k : Int} {xs : List Int} {S : Value} (h : PS F0 F r p d f n k xs S) (hE : Ext F G) : PS F0 G r p d f n k xs S :=
  ⟨hE _ _ h.cells, hE _ _ h.res, h.new, h.rnew, h.ne, h.mine.mono hE⟩
theorem PS.put {F0 F : Heap} {r p : Nat} {d f n k : Int} {xs : List Int} {S : Value} (h : PS F0 F r p d f n k xs S) (d' f' n' k' : Int) : PS F0 (F.put p (metaO d' f' n' k' S)) r p d' f' n' k' xs S := by
  refine ⟨Heap.put_same _ _ _, by rw [Heap.put_other _ _ h.ne]; exact h.res, h.new, h.rnew, h.ne, ⟨h.mine.own.of_blk fun q o hq ho => ?_, h.mine.fresh, h.mine.ext.put h.new _⟩⟩
  have hne : q ≠ p := fun e => blk_ne h.mine.own h.cells (by rw [hq, e])
  rw [Heap.put_other _ _ hne]; exact ho
theorem PS.len {F0 F : Heap} {r p : Nat} {d f n k : Int} {xs : List Int} {S : Value} (h : PS F0 F r p d f n k xs S) : ∃ A c, S = .slice A xs.length c ∧ RowAt F A (xs.map (.int .i64)) := by
  obtain ⟨A, c, h1, _, h2⟩ := h.mine.own.row
  exact ⟨A, c, h1, h2⟩
/-- One more number: the append, and the store behind it. -/
theorem dir_append {o : Oper} {ev : Operand → Value} {pp qq : Operand} {F0 F : Heap} {r p g : Nat} {d f n k x : Int} {xs : List Int} {S : Value} {K : Value → Heap → Prop}
    (ho : o.op = .call ⟨.builtin .append, #[pp, qq], #[24, 24]⟩) (hp : ev pp = S) (hq : ev qq = .slice (some ⟨g, 0, none⟩) 1 1) (h : PS F0 F r p d f n k xs S) (hl : xs.length ≤ 1000) (hg : F g = none)
    (hk : ∀ s' F', F' p = some (metaO d f n k S) → PS F0 (F'.put p (metaO d f n k s')) r p d f n k (xs ++ [x]) s' → K s' F') : OpK Try.prog o ev (F.put g (.cells #[.int .i64 x] 3)) K := by
  have h2 := h.mono (Ext.new hg (.cells #[.int .i64 x] 3))
  have hG : (F.put g (.cells #[.int .i64 x] 3)) g = some (.cells #[.int .i64 x] 3) := Heap.put_same _ _ _
  generalize F.put g (.cells #[.int .i64 x] 3) = F1 at h2 hG ⊢
  refine append_mine tab_ok (e := 3) (m := 1) (ys := [.int .i64 x]) (y := .slice (some ⟨g, 0, none⟩) 1 1) ho hp hq rfl rfl ⟨_, rfl, fun k e => by cases e⟩ ⟨_, rfl, rfl⟩ (by decide) h2.mine ⟨rfl, .inl ⟨some ⟨g, 0, none⟩, 1, rfl, fun j v hj => ⟨_, rfl, ?_⟩⟩⟩ (fun v hv => by rw [List.mem_singleton.1 hv]; rfl) (by show 2 * (xs.length + 1) * 8 ≤ 281474976710656; omega) fun s' F' hm hkp => ?_
  · rw [add_plain, Heap.cell_at hG, Nat.zero_add]
    simpa using hj
  · have hP : F' p = some (metaO d f n k S) := hkp p _ h2.cells (blk_ne h2.mine.own h2.cells)
    have hR : F' r = some zeroM := hkp r _ h2.res (blk_ne h2.mine.own h2.res)
    have hm' : Mine F0 F' s' 3 1 (xs ++ [x]).length ((xs ++ [x]).map (.int .i64)) := by
      rw [List.length_append, List.map_append]; exact hm
    refine hk s' F' hP ⟨Heap.put_same _ _ _, by rw [Heap.put_other _ _ h.ne]; exact hR, h.new, h.rnew, h.ne, ⟨hm'.own.of_blk fun q o hq ho => ?_, hm'.fresh, hm'.ext.put h.new _⟩⟩
    have hne : q ≠ p := fun e => blk_ne hm'.own hP (by rw [hq, e])
    rw [Heap.put_other _ _ hne]; exact ho
theorem PS.fin {F0 F : Heap} {r p : Nat} {d f n k : Int} {xs : List Int} {A : Option Addr} {c : Nat} (h : PS F0 F r p d f n k xs (.slice A xs.length c)) (o : Obj) : RowAt (F.put r o) A (xs.map (.int .i64)) ∧ Ext F0 (F.put r o) := by
  refine ⟨?_, h.mine.ext.put h.rnew _⟩
  have h1 : Own (F.put r o) (.slice A xs.length c) 3 1 xs.length (xs.map (.int .i64)) := h.mine.own.of_blk fun q u hq hu => by
    have hne : q ≠ r := fun e => blk_ne h.mine.own h.res (by rw [hq, e])
    rw [Heap.put_other _ _ hne]; exact hu
  obtain ⟨A', c', h2, _, h3⟩ := h1.row
  injection h2 with h2
  subst h2
  exact h3
theorem wrap_at (j : Nat) (h : j ≤ 100) : IntKind.i64.wrap (18 + IntKind.i64.wrap (4 * (j : Int))) = ((18 + 4 * j : Nat) : Int) := by
  have h1 : IntKind.i64.wrap (4 * (j : Int)) = 4 * j := by rw [IntKind.wrap_i64]; omega
  rw [h1, IntKind.wrap_i64]
  omega
theorem dir_len (b : List UInt8) : (dirS b).length = lenS b := by simp [dirS]
theorem dir_take (b : List UInt8) (j : Nat) (hj : j < lenS b) : (dirS b).take (j + 1) = (dirS b).take j ++ [wS b (18 + 4 * j)] := by
  have : (dirS b)[j]? = some (wS b (18 + 4 * j)) := by simp [dirS, hj]
  rw [List.take_add_one, this]
  rfl
theorem parse (b : List UInt8) (A : Option Addr) (c : Nat) (F : Heap) (hr : RowAt F A (bytesOf b)) (hl : b.length ≤ 100000) (hc : b.length ≤ c) :
    FnK Try.prog 7 #[.slice A b.length c] F (fun v F' => PR b v F' ∧ Ext F F') := by
  have hw := fun i G hg => word b A c i G hg hl hc
  (refine fn_walk tab_ok Try.func7 rfl rfl rfl rfl ?_; (conv => whnf))
  refine new_step zeroM rfl fun r hr0 => ?_
  have hE1 := Ext.new hr0 zeroM
  have hR1 := Heap.put_same F r zeroM
  have hoZ : ∀ v ∈ [Value.int .i64 0, .int .i64 0, .int .i64 0, .int .i64 0, .slice none 0 0], v.oneCell' = true := by simp [Value.oneCell']
  generalize F.put r zeroM = F1 at hE1 hR1 ⊢
  (conv => whnf)
  -- what is said when it is refused
  have no : ∀ (F2 : Heap) (env : Nat), ¬ (b.length = 240 ∧ okS b = true) → F2 r = some zeroM → Ext F F2 → (PR b (.tuple #[.agg #[.int .i64 0, .int .i64 0, .int .i64 0, .int .i64 0, .slice none 0 0], .int .i64 4]) F2 ∧ Ext F F2) := by
    intro F2 _ h1 h2 h3
    refine ⟨?_, h3⟩
    unfold PR
    rw [if_neg h1]
  refine cond_split (fun h => ?_) (fun h => ?_)
  case refine_1 =>
    have h1 : b.length ≠ 240 := by
      have h : ((b.length : Int) != 240) = true := h
      intro e
      rw [e] at h
      cases h
    (conv => whnf)
    refine store_step r 0 _ _ rfl hR1 rfl rfl (.inl (Nat.le_refl 0)) hoZ ?_
    (conv => whnf)
    refine res_cells tab_ok rfl rfl (Heap.put_same _ _ _) rfl ?_
    (conv => whnf)
    refine no _ 0 (fun h => h1 h.1) (Heap.put_same _ _ _) ?_
    exact hE1.put hr0 _
  have h240 : b.length = 240 := by
    have h : ((b.length : Int) != 240) = false := h
    have := bne_eq_false_iff_eq.1 h
    omega
  obtain ⟨ad, rfl⟩ := hr.some (by simp [bytesOf]; omega)
  have hb4 : b[4]? = some (b.getD 4 0) := by rw [List.getD_eq_getElem?_getD, List.getElem?_eq_getElem (by omega)]; rfl
  have hb5 : b[5]? = some (b.getD 5 0) := by rw [List.getD_eq_getElem?_getD, List.getElem?_eq_getElem (by omega)]; rfl
  have hv4 : (bytesOf b)[4]? = some (.int .u8 (b.getD 4 0).toNat) := by unfold bytesOf; rw [List.getElem?_map, hb4]; rfl
  have hv5 : (bytesOf b)[5]? = some (.int .u8 (b.getD 5 0).toNat) := by unfold bytesOf; rw [List.getElem?_map, hb5]; rfl
  have hd4 : IntKind.i64.wrap ((b.getD 4 0).toNat : Int) = dS b := by
    have := (b.getD 4 0).toNat_lt
    rw [IntKind.wrap_i64]
    unfold dS
    omega
  have hmin : (if (20 : Int) < IntKind.i64.wrap ((b.getD 5 0).toNat : Int) then 20 else IntKind.i64.wrap ((b.getD 5 0).toNat : Int)) = ((lenS b : Nat) : Int) := by
    have := (b.getD 5 0).toNat_lt
    have : IntKind.i64.wrap ((b.getD 5 0).toNat : Int) = ((b.getD 5 0).toNat : Int) := by rw [IntKind.wrap_i64]; omega
    rw [this]
    unfold lenS
    split <;> omega
  have hlen : lenS b ≤ 20 := Nat.min_le_right _ _
  (conv => whnf)
  refine ⟨⟨by omega, by omega⟩, ?_⟩
  (conv => whnf)
  refine load_step (v := .int .u8 (b.getD 4 0).toNat) ?_ ?_
  · show F1.cell? (ad.add 4) = _
    exact (hr.mono hE1).cell hv4
  (conv => whnf)
  refine new_step zeroM rfl fun p hp => ?_
  have hpr : p ≠ r := fun e => by rw [e, hR1] at hp; cases hp
  have hFp : F p = none := by
    cases e : F p with
    | none => rfl
    | some o => rw [hE1 p o e] at hp; cases hp
  have hS0 : PS F (F1.put p zeroM) r p 0 0 0 0 [] (.slice none 0 0) := ⟨Heap.put_same _ _ _, by rw [Heap.put_other _ _ hpr.symm]; exact hR1, hFp, hr0, hpr.symm, Mine.nil _ _ _ _ (hE1.put hFp _)⟩
  generalize F1.put p zeroM = F2 at hS0 ⊢
  have hoD : ∀ v ∈ [Value.int .i64 (IntKind.i64.wrap ((b.getD 4 0).toNat : Int)), .int .i64 0, .int .i64 0, .int .i64 0, .slice none 0 0], v.oneCell' = true := by simp [Value.oneCell']
  (conv => whnf)
  refine store_step p 0 _ _ rfl hS0.cells (congrArg (fun z => #[Value.int .i64 z, .int .i64 0, .int .i64 0, .int .i64 0, .slice none 0 0]) hd4) rfl (.inl (Nat.le_refl 0)) hoD ?_
  have hS1 := hS0.put (dS b) 0 0 0
  change PS F (F2.put p (.cells #[Value.int .i64 (dS b), .int .i64 0, .int .i64 0, .int .i64 0, .slice none 0 0] 26)) r p _ _ _ _ _ _ at hS1
  generalize F2.put p _ = F3 at hS1 ⊢
  have hr3 := hr.mono hS1.mine.ext
  (conv => whnf)
  refine call_of (hw 6 F3 hr3 (by omega)) ?_
  rintro v _ ⟨rfl, rfl⟩
  (conv => whnf)
  refine call_of (hw 10 _ hr3 (by omega)) ?_
  rintro v _ ⟨rfl, rfl⟩
  (conv => whnf)
  refine call_of (hw 14 _ hr3 (by omega)) ?_
  rintro v F3 ⟨rfl, rfl⟩
  have e6 : ((g4 ((b.drop 6).take 4) : Nat) : Int) = wS b 6 := rfl
  have e10 : ((g4 ((b.drop 10).take 4) : Nat) : Int) = wS b 10 := rfl
  have e14 : ((g4 ((b.drop 14).take 4) : Nat) : Int) = wS b 14 := rfl
  have o1 : ∀ z : Int, ∀ v ∈ [Value.int .i64 z], v.oneCell' = true := by simp [Value.oneCell']
  (conv => whnf)
  refine store_step p 1 _ #[.int .i64 (dS b), .int .i64 (wS b 6), .int .i64 0, .int .i64 0, .slice none 0 0] rfl hS1.cells rfl rfl (.inl (Nat.le_refl 0)) (o1 _) ?_
  have hS2 := hS1.put (dS b) (wS b 6) 0 0
  generalize F3.put p _ = F4 at hS2 ⊢
  (conv => whnf)
  refine store_step p 2 _ #[.int .i64 (dS b), .int .i64 (wS b 6), .int .i64 (wS b 10), .int .i64 0, .slice none 0 0] rfl hS2.cells rfl rfl (.inl (Nat.le_refl 0)) (o1 _) ?_
  have hS3 := hS2.put (dS b) (wS b 6) (wS b 10) 0
  generalize F4.put p _ = F5 at hS3 ⊢
  (conv => whnf)
  refine store_step p 3 _ #[.int .i64 (dS b), .int .i64 (wS b 6), .int .i64 (wS b 10), .int .i64 (wS b 14), .slice none 0 0] rfl hS3.cells rfl rfl (.inl (Nat.le_refl 0)) (o1 _) ?_
  have hS4 := hS3.put (dS b) (wS b 6) (wS b 10) (wS b 14)
  generalize F5.put p _ = F6 at hS4 ⊢
  have hr6 := hr.mono hS4.mine.ext
  (conv => whnf)
  refine ⟨⟨by omega, by omega⟩, ?_⟩
  (conv => whnf)
  refine load_step (v := .int .u8 (b.getD 5 0).toNat) ?_ ?_
  · show F6.cell? (ad.add 5) = _
    exact hr6.cell hv5
  (conv => whnf)
  refine loop_slots [0, 2, 4, 30, 31] (fun k vs F' => ∃ (j : Nat) (S : Value), j + k = lenS b ∧ vs = [.slice (some ad) b.length c, .pointer (some ⟨r, 0, none⟩), .pointer (some ⟨p, 0, none⟩), .int .i64 (lenS b : Int), .int .i64 (j : Int)] ∧ PS F F' r p (dS b) (wS b 6) (wS b 10) (wS b 14) ((dirS b).take j) S) (lenS b) ⟨0, .slice none 0 0, by omega, ?_, hS4⟩ ?_
  · rw [← hmin]; rfl
  rintro m vs F7 ρ ⟨j, S, hjm, rfl, hS⟩
  (conv => whnf)
  refine cond_split (fun h => ?_) (fun h => ?_)
  · have hj : j < lenS b := by have := of_decide_eq_true h; omega
    have hi : IntKind.i64.wrap (18 + IntKind.i64.wrap (4 * (j : Int))) = ((18 + 4 * j : Nat) : Int) := wrap_at j (by omega)
    have hcw := hw (18 + 4 * j) F7 (hr.mono hS.mine.ext) (by omega)
    rw [← hi] at hcw
    (conv => whnf)
    refine draw_walk tab_ok (by kernel_rfl) [0, 1, 2, 3, 4, 5, 6, 7, 8, 9, 10] (by kernel_rfl) ?_
    (conv => whnf)
    refine load_blk hS.cells rfl rfl ?_
    (conv => whnf)
    refine call_of hcw ?_
    rintro v F7 ⟨rfl, rfl⟩
    refine ⟨Ext.refl _, ?_⟩
    (conv => whnf)
    refine new_step (.cells #[.int .i64 (wS b (18 + 4 * j))] 3) rfl fun g hg => ?_
    refine ⟨Ext.new hg _, ?_⟩
    (conv => whnf)
    refine dir_append (x := wS b (18 + 4 * j)) rfl rfl rfl hS (by rw [List.length_take]; omega) hg fun s' F8 hP8 hS8 => ?_
    rw [← dir_take b j hj] at hS8
    obtain ⟨A', c', rfl, _⟩ := hS8.len
    have o2 : ∀ v ∈ [Value.slice A' ((dirS b).take (j + 1)).length c'], v.oneCell' = true := by
      intro v hv
      rw [List.mem_singleton.1 hv]
      rfl
    (conv => whnf)
    refine store_step p 4 _ #[.int .i64 (dS b), .int .i64 (wS b 6), .int .i64 (wS b 10), .int .i64 (wS b 14), .slice A' ((dirS b).take (j + 1)).length c'] rfl hP8 rfl rfl (.inl (Nat.le_refl 0)) o2 ?_
    (conv => whnf)
    refine ⟨m - 1, by omega, j + 1, _, by omega, ?_, hS8⟩
    have hw : IntKind.i64.wrap ((j : Int) + 1) = ((j + 1 : Nat) : Int) := by rw [IntKind.wrap_i64]; omega
    rw [← hw]
    rfl
  · have hj : j = lenS b := by have := of_decide_eq_false h; omega
    subst hj
    rw [show (dirS b).take (lenS b) = dirS b by rw [← dir_len b, List.take_length]] at hS
    obtain ⟨A', c', rfl, hrow⟩ := hS.len
    have hq : okS b = (mayB (dS b) (wS b 6) (wS b 10) (wS b 14) (dirS b) && (pageS (dS b) (wS b 6) (wS b 10) (wS b 14) (dirS b) == b)) := rfl
    have hdl : (dirS b).length ≤ 1000 := by rw [dir_len]; omega
    (conv => whnf)
    refine ⟨⟨_, _, _, hS.cells, rfl, Nat.le_refl 5, ?_⟩⟩
    (conv => whnf)
    cases hm : mayB (dS b) (wS b 6) (wS b 10) (wS b 14) (dirS b) with
    | false =>
      refine call_of (putNo (dS b) (wS b 6) (wS b 10) (wS b 14) (dirS b) A' c' _ hrow hdl hm) ?_
      rintro v F9 ⟨rfl, hE9⟩
      have hS9 := hS.mono hE9
      have hbad : ¬ (b.length = 240 ∧ okS b = true) := by rw [hq, hm]; simp
      (conv => whnf)
      refine store_step r 0 _ _ rfl hS9.res rfl rfl (.inl (Nat.le_refl 0)) hoZ ?_
      (conv => whnf)
      refine res_cells tab_ok rfl rfl (Heap.put_same _ _ _) rfl ?_
      (conv => whnf)
      exact no _ 0 hbad (Heap.put_same _ _ _) (hS9.fin _).2
    | true =>
      refine call_of (putOk (dS b) (wS b 6) (wS b 10) (wS b 14) (dirS b) A' c' _ hrow hm) ?_
      rintro v F9 ⟨⟨pg, rfl, hbs⟩, hE9⟩
      obtain ⟨A5, c5, rfl, hc5, hr5⟩ := hbs
      have hS9 := hS.mono hE9
      have hbe := bytesEqual (pageS (dS b) (wS b 6) (wS b 10) (wS b 14) (dirS b)) b A5 (some ad) c5 c F9 hr5 (hr.mono hS9.mine.ext)
      rw [hm, Bool.true_and] at hq
      generalize pageS (dS b) (wS b 6) (wS b 10) (wS b 14) (dirS b) = pg at hbe hq ⊢
      rw [← hq] at hbe
      have hgood : okS b = true → b.length = 240 ∧ okS b = true := fun h => ⟨h240, h⟩
      (conv => whnf)
      refine call_of hbe ?_
      rintro v F10 ⟨rfl, rfl⟩
      cases hok : okS b with
      | false =>
        (conv => whnf)
        refine store_step r 0 _ _ rfl hS9.res rfl rfl (.inl (Nat.le_refl 0)) hoZ ?_
        (conv => whnf)
        refine res_cells tab_ok rfl rfl (Heap.put_same _ _ _) rfl ?_
        (conv => whnf)
        exact no _ 0 (by rw [hok]; simp) (Heap.put_same _ _ _) (hS9.fin _).2
      | true =>
        have oM : ∀ v ∈ [Value.int .i64 (dS b), .int .i64 (wS b 6), .int .i64 (wS b 10), .int .i64 (wS b 14), .slice A' (dirS b).length c'], v.oneCell' = true := by simp [Value.oneCell']
        (conv => whnf)
        refine ⟨⟨_, _, _, hS9.cells, rfl, Nat.le_refl 5, ?_⟩⟩
        (conv => whnf)
        refine store_step r 0 _ _ rfl hS9.res rfl rfl (.inl (Nat.le_refl 0)) oM ?_
        (conv => whnf)
        refine res_cells tab_ok rfl rfl (Heap.put_same _ _ _) rfl ?_
        (conv => whnf)
        refine ⟨?_, (hS9.fin _).2⟩
        unfold PR
        rw [if_pos ⟨h240, hok⟩]
        exact ⟨A', c', rfl, (hS9.fin _).1⟩
end Go.Proofs.Ytkahpaipciooiaa.Al

/- Rows of pairs: what they are, slices.IndexFunc, ContainsFunc and EqualFunc of pairs, and exchequerplain.Few and Pairs, over what is known of memory. -/
import Derived.Test.YtlkdbmoocajjlaaWrd
import Derived.Test.YtlkdbmoocajjlaaAlRows
import Derived.Test.YtlkdbmoocajjlaaAlFork
import Derived.Test.YtlkdbmoocajjlaaAlData
namespace Go.Proofs.Ytlkdbmoocajjlaa.Al
open Go Go.Al Go.Proofs Go.RowKit
set_option maxHeartbeats 8000000
set_option maxRecDepth 100000
set_option linter.unusedVariables false
set_option linter.unusedSimpArgs false
abbrev PD := List UInt8 × List UInt8
structure PR where
  k : List UInt8
  A : Option Addr
  c : Nat
  v : List UInt8
  B : Option Addr
  cc : Nat
def pd (r : PR) : PD := (r.k, r.v)
abbrev prC (S T : Value) : Array Value := #[S, T]
abbrev prO (S T : Value) : Obj := .cells (prC S T) 75
abbrev zeroP : Obj := prO (.slice none 0 0) (.slice none 0 0)
def prA (r : PR) : Array Value := prC (.slice r.A r.k.length r.c) (.slice r.B r.v.length r.cc)
def prsV (rs : List PR) : List Value := rs.flatMap fun r => (prA r).toList
/-- What a pair's slices hold. -/
def PrOk (F : Heap) (r : PR) : Prop := RowAt F r.A (bytesOf r.k) ∧ RowAt F r.B (bytesOf r.v) ∧ r.k.length ≤ r.c ∧ r.v.length ≤ r.cc
theorem PrOk.mono {F G : Heap} {r : PR} (h : PrOk F r) (hE : Ext F G) : PrOk G r := ⟨h.1.mono hE, h.2.1.mono hE, h.2.2⟩
theorem prsV_len (rs : List PR) : (prsV rs).length = rs.length * 2 := by
  induction rs with
  | nil => rfl
  | cons r rs ih =>
    unfold prsV at ih ⊢
    rw [List.flatMap_cons, List.length_append, ih, List.length_cons]
    show 2 + _ = _
    omega
theorem prsV_at : ∀ (rs : List PR) (j : Nat) (x : PR), rs[j]? = some x → ((prsV rs).drop (j * 2)).take 2 = (prA x).toList := by
  intro rs
  induction rs with
  | nil => intro j x h; simp at h
  | cons r rs ih =>
    intro j x h
    unfold prsV at ih ⊢
    rw [List.flatMap_cons]
    cases j with
    | zero =>
      obtain rfl : r = x := by simpa using h
      rfl
    | succ j =>
      rw [show (j + 1) * 2 = 2 + j * 2 by omega, ← List.drop_drop, List.drop_left' (by rfl)]
      exact ih j x (by simpa using h)
theorem prsV_app (rs : List PR) (r : PR) : prsV (rs ++ [r]) = prsV rs ++ (prA r).toList := by
  unfold prsV
  rw [List.flatMap_append]
  simp
theorem pr_load {F : Heap} {ad : Addr} {rs : List PR} {j : Nat} {K : Value → Prop} (hr : RowAt F (some ad) (prsV rs)) (hj : j < rs.length) (hk : K (.agg (prA rs[j]))) : LoadsK F (ad.add (Int.toNat (j : Int) * 2)) 2 K := by
  have hx : rs[j]? = some rs[j] := List.getElem?_eq_getElem hj
  rw [Int.toNat_natCast]
  refine loads_row hr (by decide) (by rw [prsV_len]; omega) ?_
  rw [prsV_at rs j _ hx]
  exact hk
/-- One cell of a pair in a row. -/
theorem pr_cell {F : Heap} {ad : Addr} {rs : List PR} {j i : Nat} {v : Value} (hr : RowAt F (some ad) (prsV rs)) (hj : j < rs.length) (hi : (prA rs[j]).toList[i]? = some v) : F.cell? ((ad.add (Int.toNat (j : Int) * 2)).add i) = some v := by
  have hx : rs[j]? = some rs[j] := List.getElem?_eq_getElem hj
  rw [Int.toNat_natCast, add_add]
  refine hr.cell ?_
  rw [← prsV_at rs j _ hx, List.getElem?_take] at hi
  split at hi
  · rwa [List.getElem?_drop] at hi
  · cases hi
theorem ozP : ∀ v ∈ [Value.slice none 0 0, .slice none 0 0], v.oneCell' = true := by simp [Value.oneCell']
theorem os1 (A : Option Addr) (n c : Nat) : ∀ v ∈ [Value.slice A n c], v.oneCell' = true := by simp [Value.oneCell']
theorem os0 (k : Int) : ∀ v ∈ [Value.int .i64 k], v.oneCell' = true := by simp [Value.oneCell']
theorem os2 (A : Option Addr) (l c : Nat) (B : Option Addr) (l' c' : Nat) : ∀ v ∈ [Value.slice A l c, .slice B l' c'], v.oneCell' = true := by simp [Value.oneCell']
theorem pr_one (r : PR) : ∀ v ∈ (prA r).toList, v.oneCell' = true := os2 _ _ _ _ _ _
/-- The place of the first that is so. -/
def idxF {α : Type} (P : α → Bool) : List α → Nat → Int
  | [], _ => -1
  | x :: xs, i => if P x = true then (i : Int) else idxF P xs (i + 1)
theorem idxF_any {α : Type} (P : α → Bool) : ∀ (xs : List α) (i : Nat), decide (idxF P xs i ≥ 0) = xs.any P := by
  intro xs
  induction xs with
  | nil => intro i; rfl
  | cons x xs ih =>
    intro i
    unfold idxF
    rw [List.any_cons]
    split
    · next h => rw [h]; simp
    · next h => rw [ih, Bool.not_eq_true] at *; rw [h, Bool.false_or]
theorem idxF_map {α β : Type} (P : β → Bool) (f : α → β) : ∀ (xs : List α) (i : Nat), idxF (fun x => P (f x)) xs i = idxF P (xs.map f) i := by
  intro xs
  induction xs with
  | nil => intro i; rfl
  | cons x xs ih =>
    intro i
    show (if P (f x) = true then (i : Int) else idxF _ xs (i + 1)) = if P (f x) = true then (i : Int) else idxF P (xs.map f) (i + 1)
    rw [ih]
theorem indexP (id : Nat) (caps : List Value) (P : PR → Bool) (rs : List PR) (A : Option Addr) (c : Nat) (F : Heap) (hr : RowAt F A (prsV rs)) (hl : rs.length ≤ 100000)
    (hf : ∀ r ∈ rs, ∀ G, Ext F G → FnK Try.prog id ([Value.agg (prA r)] ++ caps).toArray G (fun v F' => v = .bool (P r) ∧ Ext G F')) :
    FnK Try.prog 72 #[.slice A rs.length c, .func (.func id) #[] caps.toArray] F (fun v F' => v = .int .i64 (idxF P rs 0) ∧ Ext F F') := by
  (refine fn_walk tab_ok Try.func72 rfl rfl rfl rfl ?_; (conv => whnf))
  refine loop_slots [0, 1, 7, 8] (fun mm vs F' => ∃ j : Nat, j + mm = rs.length ∧ vs = [.slice A rs.length c, .func (.func id) #[] caps.toArray, .int .i64 (rs.length : Int), .int .i64 (j : Int)] ∧ idxF P rs 0 = idxF P (rs.drop j) j ∧ Ext F F') rs.length ⟨0, by omega, rfl, rfl, Ext.refl F⟩ ?_
  rintro mm vs F2 ρ ⟨j, hjm, rfl, hix, hE2⟩
  (conv => whnf)
  refine cond_split (fun h => ?_) (fun h => ?_)
  · have hj : j < rs.length := by have := of_decide_eq_true h; omega
    obtain ⟨ad, rfl⟩ := hr.some (by rw [prsV_len]; omega)
    have hf1 := hf rs[j] (List.getElem_mem hj) F2 hE2
    rw [List.drop_eq_getElem_cons hj] at hix
    change _ = (if P rs[j] = true then (j : Int) else idxF P (rs.drop (j + 1)) (j + 1)) at hix
    have hL := fun (K : Value → Prop) => pr_load (K := K) (hr.mono hE2) hj
    generalize rs[j] = r at hf1 hix hL
    generalize P r = z at hf1 hix
    (conv => whnf)
    refine ⟨⟨by omega, by omega⟩, ?_⟩
    (conv => whnf)
    refine hL _ ?_
    (conv => whnf)
    refine call_of hf1 ?_
    rintro v F3 ⟨rfl, hE3⟩
    replace hE3 := hE2.trans hE3
    cases z with
    | true =>
      rw [if_pos rfl] at hix
      rw [hix]
      (conv => whnf)
      exact ⟨rfl, hE3⟩
    | false =>
      rw [if_neg (by decide)] at hix
      (conv => whnf)
      refine ⟨mm - 1, by omega, j + 1, by omega, ?_, hix, hE3⟩
      have hw : IntKind.i64.wrap ((j : Int) + 1) = ((j + 1 : Nat) : Int) := by rw [IntKind.wrap_i64]; omega
      rw [← hw]
      rfl
  · have hj : j = rs.length := by have := of_decide_eq_false h; omega
    subst hj
    rw [List.drop_length] at hix
    rw [hix]
    (conv => whnf)
    exact ⟨rfl, hE2⟩
theorem containsP (id : Nat) (caps : List Value) (P : PR → Bool) (rs : List PR) (A : Option Addr) (c : Nat) (F : Heap) (hr : RowAt F A (prsV rs)) (hl : rs.length ≤ 100000)
    (hf : ∀ r ∈ rs, ∀ G, Ext F G → FnK Try.prog id ([Value.agg (prA r)] ++ caps).toArray G (fun v F' => v = .bool (P r) ∧ Ext G F')) :
    FnK Try.prog 44 #[.slice A rs.length c, .func (.func id) #[] caps.toArray] F (fun v F' => v = .bool (rs.any P) ∧ Ext F F') := by
  have hi := indexP id caps P rs A c F hr hl hf
  have ha := idxF_any P rs 0
  generalize idxF P rs 0 = i at hi ha
  (refine fn_walk tab_ok Try.func44 rfl rfl rfl rfl ?_; (conv => whnf))
  refine call_of hi ?_
  rintro v F1 ⟨rfl, hE⟩
  (conv => whnf)
  exact ⟨congrArg Value.bool ha, hE⟩
def longP (r : PR) : Bool := decide (r.k.length > 200) || decide (r.v.length > 400)
theorem long1 (r : PR) (F : Heap) : FnK Try.prog 45 #[.agg (prA r)] F (fun v F' => v = .bool (longP r) ∧ Ext F F') := by
  obtain ⟨k, A, c, w, B, cc⟩ := r
  have hf : longP ⟨k, A, c, w, B, cc⟩ = (decide (k.length > 200) || decide (w.length > 400)) := rfl
  generalize longP ⟨k, A, c, w, B, cc⟩ = q at hf
  (refine fn_walk tab_ok Try.func45 rfl rfl rfl rfl ?_; (conv => whnf))
  refine new_step (prO (.slice A k.length c) (.slice B w.length cc)) rfl fun b hb => ?_
  have hE := Ext.new hb (prO (.slice A k.length c) (.slice B w.length cc))
  have hB := Heap.put_same F b (prO (.slice A k.length c) (.slice B w.length cc))
  generalize F.put b _ = F1 at hE hB ⊢
  (conv => whnf)
  refine load_blk hB rfl rfl ?_
  (conv => whnf)
  refine cond_split (fun h => ?_) (fun h => ?_)
  · have h : (!decide (((k.length : Nat) : Int) > 200)) = true := h
    have h1 : ¬ k.length > 200 := by simp at h; omega
    (conv => whnf)
    refine load_blk hB rfl rfl ?_
    (conv => whnf)
    refine ⟨congrArg Value.bool ?_, hE⟩
    show decide (((w.length : Nat) : Int) > 400) = q
    rw [hf, decide_eq_false h1, Bool.false_or, Bool.eq_iff_iff]
    simp
    omega
  · have h : (!decide (((k.length : Nat) : Int) > 200)) = false := h
    have h1 : k.length > 200 := by simp at h; omega
    (conv => whnf)
    refine ⟨congrArg Value.bool ?_, hE⟩
    rw [hf, decide_eq_true h1]
    rfl
def fewB (rs : List PR) (many : Nat) : Bool := decide (rs.length ≤ many) && !rs.any longP
theorem fewB_iff {rs : List PR} {many : Nat} (h : fewB rs many = true) : rs.length ≤ many ∧ ∀ r ∈ rs, r.k.length ≤ 200 ∧ r.v.length ≤ 400 := by
  unfold fewB at h
  rw [Bool.and_eq_true, decide_eq_true_eq, Bool.not_eq_true', List.any_eq_false] at h
  refine ⟨h.1, fun r hr => ?_⟩
  have := h.2 r hr
  unfold longP at this
  simp at this
  omega
theorem few (rs : List PR) (A : Option Addr) (c many : Nat) (F : Heap) (hr : RowAt F A (prsV rs)) (hm : many ≤ 1000) :
    FnK Try.prog 17 #[.slice A rs.length c, .int .i64 (many : Int)] F (fun v F' => v = .bool (fewB rs many) ∧ Ext F F') := by
  have hc := fun (h : rs.length ≤ many) => containsP 45 [] longP rs A c F hr (by omega) (fun r _ G _ => long1 r G)
  have hll : fewB rs many = (decide (rs.length ≤ many) && !rs.any longP) := rfl
  generalize rs.any longP = z at hc hll
  generalize fewB rs many = y at hll
  (refine fn_walk tab_ok Try.func17 rfl rfl rfl rfl ?_; (conv => whnf))
  refine cond_split (fun h => ?_) (fun h => ?_)
  · have h : decide ((rs.length : Int) ≤ (many : Int)) = true := h
    have h1 : rs.length ≤ many := by have := of_decide_eq_true h; omega
    rw [decide_eq_true h1, Bool.true_and] at hll
    subst hll
    (conv => whnf)
    refine call_of (hc h1) ?_
    rintro v F1 ⟨rfl, hE⟩
    (conv => whnf)
    exact ⟨rfl, hE⟩
  · have h : decide ((rs.length : Int) ≤ (many : Int)) = false := h
    have h1 : ¬ rs.length ≤ many := by have := of_decide_eq_false h; omega
    rw [decide_eq_false h1, Bool.false_and] at hll
    subst hll
    (conv => whnf)
    exact ⟨rfl, Ext.refl F⟩
theorem equalP (id : Nat) (rs ss : List PR) (A B : Option Addr) (c c' : Nat) (F : Heap) (hr : RowAt F A (prsV rs)) (hs : RowAt F B (prsV ss)) (hor : ∀ r ∈ rs, PrOk F r) (hos : ∀ r ∈ ss, PrOk F r) (hl : rs.length ≤ 100000)
    (hf : ∀ r s G, PrOk G r → PrOk G s → FnK Try.prog id #[.agg (prA r), .agg (prA s)] G (fun v F' => v = .bool (pd r == pd s) ∧ Ext G F')) :
    FnK Try.prog 51 #[.slice A rs.length c, .slice B ss.length c', .func (.func id) #[] #[]] F (fun v F' => v = .bool (rs.map pd == ss.map pd) ∧ Ext F F') := by
  have no : ∀ F', ¬ rs.map pd = ss.map pd → Ext F F' → Value.bool false = .bool (rs.map pd == ss.map pd) ∧ Ext F F' := by
    intro F' h hX
    refine ⟨congrArg Value.bool ?_, hX⟩
    rw [eq_comm, ← Bool.not_eq_true, beq_iff_eq]
    exact h
  have yes : ∀ F', rs.map pd = ss.map pd → Ext F F' → Value.bool true = .bool (rs.map pd == ss.map pd) ∧ Ext F F' := by
    intro F' h hX
    refine ⟨congrArg Value.bool ?_, hX⟩
    rw [eq_comm, beq_iff_eq]
    exact h
  generalize (rs.map pd == ss.map pd) = res at no yes
  (refine fn_walk tab_ok Try.func51 rfl rfl rfl rfl ?_; (conv => whnf))
  refine cond_split (fun h => ?_) (fun h => ?_)
  · have h : ((rs.length : Int) != (ss.length : Int)) = true := h
    have hne : rs.length ≠ ss.length := fun e => by rw [e] at h; simp at h
    (conv => whnf)
    refine no _ (fun h => ?_) (Ext.refl F)
    have := congrArg List.length h
    rw [List.length_map, List.length_map] at this
    exact absurd this hne
  have hlen : rs.length = ss.length := by
    have h : ((rs.length : Int) != (ss.length : Int)) = false := h
    have := bne_eq_false_iff_eq.1 h
    omega
  (conv => whnf)
  refine loop_slots [1, 2, 15, 16, 17] (fun mm vs F' => ∃ j : Nat, j + mm = rs.length ∧ vs = [.slice B ss.length c', .func (.func id) #[] #[], .slice A rs.length c, .int .i64 (rs.length : Int), .int .i64 (j : Int)] ∧ (rs.take j).map pd = (ss.take j).map pd ∧ Ext F F') rs.length ⟨0, by omega, rfl, rfl, Ext.refl F⟩ ?_
  rintro mm vs F2 ρ ⟨j, hjm, rfl, heq, hE⟩
  (conv => whnf)
  refine cond_split (fun h => ?_) (fun h => ?_)
  · have hj : j < rs.length := by have := of_decide_eq_true h; omega
    have hj' : j < ss.length := by omega
    obtain ⟨ad, rfl⟩ := hr.some (by rw [prsV_len]; omega)
    obtain ⟨bd, rfl⟩ := hs.some (by rw [prsV_len]; omega)
    have hx : rs[j]? = some rs[j] := List.getElem?_eq_getElem hj
    have hy : ss[j]? = some ss[j] := List.getElem?_eq_getElem hj'
    have hLr := fun (K : Value → Prop) => pr_load (K := K) (hr.mono hE) hj
    have hLs := fun G (hG : Ext F G) (K : Value → Prop) => pr_load (K := K) (hs.mono hG) hj'
    have hev := hor rs[j] (List.getElem_mem hj)
    have hfv := hos ss[j] (List.getElem_mem hj')
    have hq := fun G (hG : Ext F G) => hf rs[j] ss[j] G (hev.mono hG) (hfv.mono hG)
    have st : (pd rs[j] == pd ss[j]) = true → ((rs.take (j + 1)).map pd = (ss.take (j + 1)).map pd) := by
      intro h
      rw [beq_iff_eq] at h
      rw [List.take_add_one, List.take_add_one, hx, hy, List.map_append, List.map_append, heq]
      simp [h]
    have nn : (pd rs[j] == pd ss[j]) = false → ¬ rs.map pd = ss.map pd := by
      intro h e
      rw [← Bool.not_eq_true, beq_iff_eq] at h
      apply h
      have := congrArg (fun l => l[j]?) e
      simp only [List.getElem?_map, hx, hy, Option.map_some, Option.some.injEq] at this
      exact this
    generalize (pd rs[j] == pd ss[j]) = z at st nn hq
    generalize rs[j] = r at hLr hq
    generalize ss[j] = s at hLs hq
    clear hev hfv hx hy
    obtain ⟨k, A1, c1, w, B1, cc1⟩ := r
    obtain ⟨k', A2, c2, w', B2, cc2⟩ := s
    (conv => whnf)
    refine ⟨⟨by omega, by omega⟩, ?_⟩
    (conv => whnf)
    refine hLr _ ?_
    (conv => whnf)
    refine new_step zeroP rfl fun u hu => ?_
    have hU := Heap.put_same F2 u zeroP
    have hX := fun o => hE.trans (ext_put_put hu (o := zeroP) (o' := o))
    generalize F2.put u zeroP = F3 at hU hX ⊢
    (conv => whnf)
    refine store_step u 0 _ (prC (.slice A1 k.length c1) (.slice B1 w.length cc1)) rfl hU rfl rfl (.inl (Nat.le_refl 0)) (os2 _ _ _ _ _ _) ?_
    have hU := Heap.put_same F3 u (prO (.slice A1 k.length c1) (.slice B1 w.length cc1))
    replace hX := hX (prO (.slice A1 k.length c1) (.slice B1 w.length cc1))
    generalize F3.put u _ = F4 at hU hX ⊢
    (conv => whnf)
    refine ⟨⟨by omega, by omega⟩, ?_⟩
    (conv => whnf)
    refine hLs _ hX _ ?_
    (conv => whnf)
    refine new_step zeroP rfl fun y hy => ?_
    have hW := Heap.put_same F4 y zeroP
    have hY := fun o => ext_put_put hy (o := zeroP) (o' := o)
    generalize F4.put y zeroP = F5 at hW hY ⊢
    (conv => whnf)
    refine store_step y 0 _ (prC (.slice A2 k'.length c2) (.slice B2 w'.length cc2)) rfl hW rfl rfl (.inl (Nat.le_refl 0)) (os2 _ _ _ _ _ _) ?_
    have hW := Heap.put_same F5 y (prO (.slice A2 k'.length c2) (.slice B2 w'.length cc2))
    replace hY := hY (prO (.slice A2 k'.length c2) (.slice B2 w'.length cc2))
    generalize F5.put y _ = F6 at hW hY ⊢
    have hU6 := hY _ _ hU
    have hE6 := hX.trans hY
    (conv => whnf)
    refine ⟨⟨_, _, _, hU6, rfl, Nat.le_refl 2, ?_⟩⟩
    (conv => whnf)
    refine ⟨⟨_, _, _, hW, rfl, Nat.le_refl 2, ?_⟩⟩
    (conv => whnf)
    refine call_of (hq F6 hE6) ?_
    rintro v F7 ⟨rfl, hE7⟩
    replace hE7 := hE6.trans hE7
    cases z with
    | false =>
      have hn := nn rfl
      (conv => whnf)
      exact no _ hn hE7
    | true =>
      have hst := st rfl
      (conv => whnf)
      refine ⟨mm - 1, by omega, j + 1, by omega, ?_, hst, hE7⟩
      have hw : IntKind.i64.wrap ((j : Int) + 1) = ((j + 1 : Nat) : Int) := by rw [IntKind.wrap_i64]; omega
      rw [← hw]
      rfl
  · have hj : j = rs.length := by have := of_decide_eq_false h; omega
    subst hj
    rw [List.take_length, hlen, List.take_length] at heq
    (conv => whnf)
    exact yes _ heq hE
theorem pd_beq (k k' w w' : List UInt8) : (((k, w) : PD) == (k', w')) = ((k == k') && (w == w')) := by
  rw [Bool.eq_iff_iff, beq_iff_eq, Bool.and_eq_true, beq_iff_eq, beq_iff_eq, Prod.mk.injEq]
theorem pairs1 (r s : PR) (F : Heap) (hr : PrOk F r) (hs : PrOk F s) : FnK Try.prog 52 #[.agg (prA r), .agg (prA s)] F (fun v F' => v = .bool (pd r == pd s) ∧ Ext F F') := by
  obtain ⟨k, A1, c1, w, B1, cc1⟩ := r
  obtain ⟨k', A2, c2, w', B2, cc2⟩ := s
  obtain ⟨a1, a2, _⟩ := hr
  obtain ⟨b1, b2, _⟩ := hs
  dsimp only at a1 a2 b1 b2
  have hpd := pd_beq k k' w w'
  change (pd ⟨k, A1, c1, w, B1, cc1⟩ == pd ⟨k', A2, c2, w', B2, cc2⟩) = _ at hpd
  generalize (pd ⟨k, A1, c1, w, B1, cc1⟩ == pd ⟨k', A2, c2, w', B2, cc2⟩) = z at hpd
  have e1 := fun G g g' => bytesEqual k k' A1 A2 c1 c2 G g g'
  have e2 := fun G g g' => bytesEqual w w' B1 B2 cc1 cc2 G g g'
  generalize (k == k') = z1 at hpd e1
  generalize (w == w') = z2 at hpd e2
  (refine fn_walk tab_ok Try.func52 rfl rfl rfl rfl ?_; (conv => whnf))
  refine new_step (prO (.slice A1 k.length c1) (.slice B1 w.length cc1)) rfl fun b hb => ?_
  have hE := Ext.new hb (prO (.slice A1 k.length c1) (.slice B1 w.length cc1))
  have hB := Heap.put_same F b (prO (.slice A1 k.length c1) (.slice B1 w.length cc1))
  generalize F.put b _ = F1 at hE hB ⊢
  (conv => whnf)
  refine new_step (prO (.slice A2 k'.length c2) (.slice B2 w'.length cc2)) rfl fun d hd => ?_
  have hX := Ext.new hd (prO (.slice A2 k'.length c2) (.slice B2 w'.length cc2))
  have hD := Heap.put_same F1 d (prO (.slice A2 k'.length c2) (.slice B2 w'.length cc2))
  have hB := hX _ _ hB
  replace hE := hE.trans hX
  generalize F1.put d _ = F2 at hE hB hD ⊢
  (conv => whnf)
  refine load_blk hB rfl rfl ?_
  (conv => whnf)
  refine load_blk hD rfl rfl ?_
  (conv => whnf)
  refine call_of (e1 F2 (a1.mono hE) (b1.mono hE)) ?_
  rintro v F2 ⟨rfl, rfl⟩
  cases z1 with
  | false =>
    rw [Bool.false_and] at hpd
    (conv => whnf)
    exact ⟨congrArg Value.bool hpd.symm, hE⟩
  | true =>
    rw [Bool.true_and] at hpd
    (conv => whnf)
    refine load_blk hB rfl rfl ?_
    (conv => whnf)
    refine load_blk hD rfl rfl ?_
    (conv => whnf)
    refine call_of (e2 F2 (a2.mono hE) (b2.mono hE)) ?_
    rintro v F2 ⟨rfl, rfl⟩
    (conv => whnf)
    exact ⟨congrArg Value.bool hpd.symm, hE⟩
theorem plainPairs (rs ss : List PR) (A B : Option Addr) (c c' : Nat) (F : Heap) (hr : RowAt F A (prsV rs)) (hs : RowAt F B (prsV ss)) (hor : ∀ r ∈ rs, PrOk F r) (hos : ∀ r ∈ ss, PrOk F r) (hl : rs.length ≤ 100000) :
    FnK Try.prog 22 #[.slice A rs.length c, .slice B ss.length c'] F (fun v F' => v = .bool (rs.map pd == ss.map pd) ∧ Ext F F') := by
  have he := equalP 52 rs ss A B c c' F hr hs hor hos hl (fun r s G h1 h2 => pairs1 r s G h1 h2)
  generalize (rs.map pd == ss.map pd) = z at he
  (refine fn_walk tab_ok Try.func22 rfl rfl rfl rfl ?_; (conv => whnf))
  refine call_of he ?_
  rintro v F1 ⟨rfl, hE⟩
  (conv => whnf)
  exact ⟨rfl, hE⟩
end Go.Proofs.Ytlkdbmoocajjlaa.Al

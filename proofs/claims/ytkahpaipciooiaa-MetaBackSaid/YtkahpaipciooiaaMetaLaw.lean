/- What a page's parse comes to, in plain words; the contract of the laws' awake. -/
import Derived.Test.YtkahpaipciooiaaMetaRParse
import Derived.Test.YtkahpaipciooiaaAlData
namespace Go.Proofs.Ytkahpaipciooiaa.Al
open Go Go.Al Go.Proofs Go.RowKit
set_option maxHeartbeats 8000000
set_option maxRecDepth 100000
set_option linter.unusedVariables false
set_option linter.unusedSimpArgs false
structure MD where
  d : Int
  f : Int
  n : Int
  k : Int
  l : List Int
  e : Int
/-- The parse of a page. -/
def pm (b : List UInt8) : MD := if b.length = 240 ∧ okS b = true then ⟨dS b, wS b 6, wS b 10, wS b 14, dirS b, 0⟩ else ⟨0, 0, 0, 0, [], 4⟩
theorem pm_cases (b : List UInt8) : pm b = ⟨0, 0, 0, 0, [], 4⟩ ∨ ((pm b).e = 0 ∧ mayB (pm b).d (pm b).f (pm b).n (pm b).k (pm b).l = true ∧ pageS (pm b).d (pm b).f (pm b).n (pm b).k (pm b).l = b) := by
  unfold pm
  split
  · next h =>
    right
    have h2 := h.2
    unfold okS at h2
    rw [Bool.and_eq_true, beq_iff_eq] at h2
    exact ⟨rfl, h2.1, h2.2⟩
  · exact .inl rfl
theorem pm_len (b : List UInt8) : (pm b).l.length ≤ 20 := by
  unfold pm
  split
  · show (dirS b).length ≤ 20
    rw [dir_len]
    exact Nat.min_le_right _ _
  · exact Nat.zero_le _
def Parsed (m : MD) (v : Value) (F : Heap) : Prop := ∃ B cc, v = .tuple #[.agg #[.int .i64 m.d, .int .i64 m.f, .int .i64 m.n, .int .i64 m.k, .slice B m.l.length cc], .int .i64 m.e] ∧ RowAt F B (m.l.map (.int .i64))
theorem parsed_of {b : List UInt8} {v : Value} {F : Heap} (h : PR b v F) : Parsed (pm b) v F := by
  unfold PR at h
  unfold Parsed pm
  split
  · next hg => rw [if_pos hg] at h; exact h
  · next hg => rw [if_neg hg] at h; exact ⟨none, 0, h, RowAt.nil _ _⟩
theorem be4_len (n : Nat) : (be4 n).length = 4 := rfl
theorem g4_be4 (n : Nat) (h : n < 4294967296) : g4 (be4 n) = n := by
  unfold g4 be4
  simp only [List.foldl_cons, List.foldl_nil, UInt8.toNat_ofNat', Nat.div_one]
  omega
theorem put4_in {bs : List UInt8} {n : Int} (h : in4 n = true) : put4 bs n = bs ++ be4 n.toNat := by
  unfold put4
  rw [h, cond_true]
theorem putAll_in : ∀ {l : List Int} (bs : List UInt8), l.all in4 = true → putAll bs l = bs ++ l.flatMap fun n => be4 n.toNat := by
  intro l
  induction l with
  | nil => intro bs _; show bs = bs ++ []; rw [List.append_nil]
  | cons n l ih =>
    intro bs h
    rw [List.all_cons, Bool.and_eq_true] at h
    show putAll (put4 bs n) l = _
    rw [ih _ h.2, put4_in h.1, List.flatMap_cons, List.append_assoc]
theorem g4_int {n : Int} (h : in4 n = true) : ((g4 (be4 n.toNat) : Nat) : Int) = n := by
  unfold in4 at h
  rw [Bool.and_eq_true, decide_eq_true_eq, decide_eq_true_eq] at h
  rw [g4_be4 _ (by omega)]
  omega
theorem flat_at : ∀ (l : List Int) (Z : List UInt8) (i : Nat) (n : Int), l[i]? = some n → (((l.flatMap fun n => be4 n.toNat) ++ Z).drop (4 * i)).take 4 = be4 n.toNat := by
  intro l
  induction l with
  | nil => intro Z i n h; simp at h
  | cons x l ih =>
    intro Z i n h
    cases i with
    | zero =>
      obtain rfl : x = n := by simpa using h
      rw [List.flatMap_cons, List.append_assoc, Nat.mul_zero, List.drop_zero, List.take_left' (be4_len _)]
    | succ i =>
      rw [List.flatMap_cons, List.append_assoc, show 4 * (i + 1) = 4 + 4 * i by omega, ← List.drop_drop, List.drop_left' (be4_len _)]
      exact ih Z i n (by simpa using h)
/-- What was put is read. -/
theorem pm_page (d f n k : Int) (l : List Int) (h : mayB d f n k l = true) : pm (pageS d f n k l) = ⟨d, f, n, k, l, 0⟩ := by
  obtain ⟨⟨d0, d1⟩, ⟨l0, l1⟩, ⟨hf, hn, hk⟩, hl⟩ := (mayB_iff d f n k l).1 h
  have hlen := page_len d f n k l l1
  obtain ⟨Z, hZ⟩ : ∃ Z, pageS d f n k l = headS d l.length ++ (be4 f.toNat ++ (be4 n.toNat ++ (be4 k.toNat ++ ((l.flatMap fun n => be4 n.toNat) ++ Z)))) := by
    refine ⟨List.replicate (240 - (bodyS d f n k l).length) 0, ?_⟩
    unfold pageS
    conv => lhs; arg 1; unfold bodyS
    rw [putAll_in _ hl]
    have : putAll (headS d l.length) [f, n, k] = headS d l.length ++ (be4 f.toNat ++ (be4 n.toNat ++ be4 k.toNat)) := by
      show put4 (put4 (put4 _ f) n) k = _
      rw [put4_in hf, put4_in hn, put4_in hk]
      simp only [List.append_assoc]
    rw [this]
    simp only [List.append_assoc]
  have hH : (headS d l.length).length = 6 := rfl
  have e4 : dS (pageS d f n k l) = d := by
    unfold dS
    rw [hZ]
    show ((UInt8.ofNat (d.toNat % 256)).toNat : Int) = d
    rw [UInt8.toNat_ofNat']
    omega
  have e5 : lenS (pageS d f n k l) = l.length := by
    unfold lenS
    rw [hZ]
    show min (UInt8.ofNat l.length).toNat 20 = l.length
    rw [UInt8.toNat_ofNat']
    omega
  have d6 : (pageS d f n k l).drop 6 = be4 f.toNat ++ (be4 n.toNat ++ (be4 k.toNat ++ ((l.flatMap fun n => be4 n.toNat) ++ Z))) := by rw [hZ, List.drop_left' hH]
  have d10 : (pageS d f n k l).drop 10 = be4 n.toNat ++ (be4 k.toNat ++ ((l.flatMap fun n => be4 n.toNat) ++ Z)) := by
    rw [show (10 : Nat) = 6 + 4 from rfl, ← List.drop_drop, d6, List.drop_left' (be4_len _)]
  have d14 : (pageS d f n k l).drop 14 = be4 k.toNat ++ ((l.flatMap fun n => be4 n.toNat) ++ Z) := by
    rw [show (14 : Nat) = 10 + 4 from rfl, ← List.drop_drop, d10, List.drop_left' (be4_len _)]
  have d18 : (pageS d f n k l).drop 18 = (l.flatMap fun n => be4 n.toNat) ++ Z := by
    rw [show (18 : Nat) = 14 + 4 from rfl, ← List.drop_drop, d14, List.drop_left' (be4_len _)]
  have w6 : wS (pageS d f n k l) 6 = f := by
    unfold wS
    rw [d6, List.take_left' (be4_len _), g4_int hf]
  have w10 : wS (pageS d f n k l) 10 = n := by
    unfold wS
    rw [d10, List.take_left' (be4_len _), g4_int hn]
  have w14 : wS (pageS d f n k l) 14 = k := by
    unfold wS
    rw [d14, List.take_left' (be4_len _), g4_int hk]
  have wd : dirS (pageS d f n k l) = l := by
    unfold dirS
    rw [e5]
    apply List.ext_getElem
    · simp
    · intro i h1 h2
      simp only [List.getElem_map, List.getElem_range]
      unfold wS
      rw [← List.drop_drop, d18, flat_at l Z i l[i] (List.getElem?_eq_getElem h2), g4_int (List.all_eq_true.1 hl _ (List.getElem_mem h2))]
  unfold pm
  have hok : okS (pageS d f n k l) = true := by
    unfold okS
    rw [e4, w6, w10, w14, wd, h, beq_self_eq_true]
    rfl
  rw [if_pos ⟨hlen, hok⟩, e4, w6, w10, w14, wd]
theorem parseM (b : List UInt8) (A : Option Addr) (c : Nat) (F : Heap) (hr : RowAt F A (bytesOf b)) (hl : b.length ≤ 100000) (hc : b.length ≤ c) :
    FnK Try.prog 7 #[.slice A b.length c] F (fun v F' => Parsed (pm b) v F' ∧ Ext F F') :=
  (parse b A c F hr hl hc).mono fun v F' h => ⟨parsed_of h.1, h.2⟩
theorem rparseM (b : List UInt8) (A : Option Addr) (c : Nat) (F : Heap) (hr : RowAt F A (bytesOf b)) (hl : b.length ≤ 100000) (hc : b.length ≤ c) :
    FnK Try.prog 8 #[.slice A b.length c] F (fun v F' => Parsed (pm b) v F' ∧ Ext F F') :=
  (rparse b A c F hr hl hc).mono fun v F' h => ⟨parsed_of h.1, h.2⟩
theorem oneM (d f n k : Int) (A : Option Addr) (m c : Nat) : ∀ v ∈ [Value.int .i64 d, .int .i64 f, .int .i64 n, .int .i64 k, .slice A m c], v.oneCell' = true := by simp [Value.oneCell']
theorem awake (F : Heap) : FnK Try.prog 6 #[] F (fun v F' => v = .bool true ∧ Ext F F') := by
  have hmy : mayB 1 0 4 0 [1] = true := by decide +kernel
  obtain ⟨e, he⟩ : ∃ e : Int, (e == 0) = true ∧ e = 0 := ⟨0, rfl, rfl⟩
  have hP := fun A c G hr => (putOk 1 0 4 0 [1] A c G hr hmy).mono (R' := fun v F' => (∃ r, v = .tuple #[r, .int .i64 e] ∧ Bs F' r (pageS 1 0 4 0 [1])) ∧ Ext G F') (fun v F' h => by rw [he.2]; exact h)
  have hpl := page_len 1 0 4 0 [1] (by decide)
  have hpm := pm_page 1 0 4 0 [1] hmy
  generalize pageS 1 0 4 0 [1] = pg at hP hpl hpm
  have hQ := parseM pg
  obtain ⟨m, hm⟩ : ∃ m, m = pm pg := ⟨_, rfl⟩
  simp only [Bs] at hP
  simp only [hpl] at hP hQ
  rw [← hm] at hQ
  rw [hpm] at hm
  have hme : (m.e == 0) = true := by rw [hm]; rfl
  have hmn : (m.n == 4) = true := by rw [hm]; rfl
  have hml : ((m.l.length : Int) == 1) = true := by rw [hm]; rfl
  clear hm hpm
  (refine fn_walk tab_ok Try.func6 rfl rfl rfl rfl ?_; (conv => whnf))
  refine new_step (.cells #[.int .i64 1] 3) rfl fun g hg => ?_
  have hE1 := Ext.new hg (.cells #[.int .i64 1] 3)
  have hG := Heap.put_same F g (.cells #[.int .i64 1] 3)
  generalize F.put g _ = F1 at hE1 hG ⊢
  have hrow : RowAt F1 (some ⟨g, 0, none⟩) (([1] : List Int).map (.int .i64)) := fun j v hj => ⟨_, rfl, by
    rw [add_plain, Heap.cell_at hG, Nat.zero_add]
    simpa using hj⟩
  (conv => whnf)
  refine call_of (hP (some ⟨g, 0, none⟩) 1 F1 hrow) ?_
  rintro v F2 ⟨⟨r, rfl, A, c, rfl, hc, hr⟩, hE2⟩
  replace hE2 := hE1.trans hE2
  (conv => whnf)
  refine call_of (hQ A c F2 hr (by omega) hc) ?_
  rintro v F3 ⟨⟨B, cc, rfl, hB⟩, hE3⟩
  replace hE3 := hE2.trans hE3
  (conv => whnf)
  refine new_step zeroM rfl fun p hp => ?_
  have hZ := Heap.put_same F3 p zeroM
  have hE4 : ∀ o, Ext F3 ((F3.put p zeroM).put p o) := fun o => ext_put_put hp
  generalize F3.put p zeroM = F4 at hZ hE4 ⊢
  (conv => whnf)
  refine store_step p 0 _ #[.int .i64 m.d, .int .i64 m.f, .int .i64 m.n, .int .i64 m.k, .slice B m.l.length cc] rfl hZ rfl rfl (.inl (Nat.le_refl 0)) (oneM _ _ _ _ _ _ _) ?_
  have hE5 := hE4 (.cells #[.int .i64 m.d, .int .i64 m.f, .int .i64 m.n, .int .i64 m.k, .slice B m.l.length cc] 26)
  have hM := Heap.put_same F4 p (.cells #[.int .i64 m.d, .int .i64 m.f, .int .i64 m.n, .int .i64 m.k, .slice B m.l.length cc] 26)
  generalize F4.put p _ = F5 at hE5 hM ⊢
  refine short [1, 2, 3, 15] [.slice A 240 c, .int .i64 e, .pointer (some ⟨p, 0, none⟩), .int .i64 m.e] rfl fun ρ => ?_
  (conv => whnf)
  refine cond_split (fun h => ?_) (fun h => ?_)
  case refine_2 => (have h : (e == 0) = false := h); rw [he.1] at h; cases h
  (conv => whnf)
  refine cond_split (fun h => ?_) (fun h => ?_)
  case refine_2 => (have h : (m.e == 0) = false := h); rw [hme] at h; cases h
  (conv => whnf)
  refine load_blk hM rfl rfl ?_
  (conv => whnf)
  refine cond_split (fun h => ?_) (fun h => ?_)
  case refine_2 => (have h : (m.n == 4) = false := h); rw [hmn] at h; cases h
  (conv => whnf)
  refine load_blk hM rfl rfl ?_
  (conv => whnf)
  exact ⟨congrArg Value.bool hml, hE3.trans hE5⟩
end Go.Proofs.Ytkahpaipciooiaa.Al

/- A command's bytes, in plain words: what was written is read, by the program's reader and by the reference. -/
import Derived.Test.YtkahpaipciooiacCmdSame2
namespace Go.Proofs.Ytkahpaipciooiac.Al
open Go Go.Al Go.Proofs Go.RowKit
set_option maxHeartbeats 8000000
set_option maxRecDepth 100000
set_option linter.unusedVariables false
set_option linter.unusedSimpArgs false
def in64 (n : Int) : Prop := -9223372036854775808 ≤ n ∧ n < 9223372036854775808
/-- A command that a machine can hold. -/
def wfC (c : CD) : Prop := in64 c.a ∧ ∀ q ∈ c.ls, in64 q.a
def lnB (q : LD) : List UInt8 := beM 2 q.f ++ (beM 2 q.o ++ (beM 2 q.n ++ beM 8 q.a))
theorem lnB_len (q : LD) : (lnB q).length = 14 := rfl
theorem encL_flat : ∀ (ls : List LD) (e : List UInt8), ls.all lineOk = true → encL e ls = e ++ ls.flatMap lnB := by
  intro ls
  induction ls with
  | nil => intro e _; show e = e ++ []; rw [List.append_nil]
  | cons q ls ih =>
    intro e h
    rw [List.all_cons, Bool.and_eq_true] at h
    show encL (putAllM 8 (putAllM 2 e [q.f, q.o, q.n]) [q.a]) ls = _
    rw [ih _ h.2, putAllM_in _ h.1, putAllM_in (l := [q.a]) _ (by simp [inM])]
    simp only [List.flatMap_cons, List.flatMap_nil, List.append_nil, lnB, List.append_assoc]
theorem in1 {z : Int} (h0 : 0 ≤ z) (h1 : z < 256) : inM 1 z = true := by
  unfold inM
  rw [show (Nat.beq 1 8) = false from rfl, cond_false, decide_eq_true h0, Bool.true_and, decide_eq_true (by simpa using h1)]
theorem encB_flat (c : CD) (h : mayB c = true) : encB c = beM 1 c.k ++ (beM 2 c.y ++ (beM 2 c.x ++ (beM 2 c.f ++ (beM 2 c.o ++ (beM 2 c.n ++ (beM 2 c.p ++ (beM 4 c.d ++ (beM 1 c.l ++ (beM 8 c.a ++ (beM 1 (if c.ab then 1 else 0) ++ (beM 1 (c.nm.length : Int) ++ (c.nm ++ (beM 1 (c.ls.length : Int) ++ c.ls.flatMap lnB))))))))))))) := by
  obtain ⟨h1, h2, h3, h4, h5, h6, h7⟩ := (mayB_iff c).1 h
  unfold knownB at h1
  rw [Bool.and_eq_true, decide_eq_true_eq, decide_eq_true_eq] at h1
  unfold encB
  rw [encL_flat _ _ h7]
  unfold encM encH
  rw [putAllM_in (l := [c.k]) [] (by simp [in1 (show 0 ≤ c.k by omega) (by omega)]), putAllM_in _ h4, putAllM_in _ h5, putAllM_in _ h6, putAllM_in (l := [c.a]) _ (by simp [inM])]
  rw [putAllM_in (l := [if c.ab then 1 else 0, (c.nm.length : Int)]) _ (by
    rw [List.all_cons, List.all_cons, in1 (by split <;> omega) (by split <;> omega), in1 (by omega) (by omega)]; rfl)]
  rw [putAllM_in (l := [(c.ls.length : Int)]) _ (by rw [List.all_cons, in1 (by omega) (by omega)]; rfl)]
  simp only [List.flatMap_cons, List.flatMap_nil, List.append_nil, List.nil_append, List.append_assoc]
/-- A number that stands there is read. -/
theorem read_at {b R : List UInt8} {i m : Nat} {z : Int} (hm : Siz m) (h : b.drop i = beM m z ++ R) (hi : i ≤ b.length) (hin : inM m z = true) (hz : in64 z) : getN b i m = z ∧ rdA b i m = i + m ∧ (∀ sh, rdS b i m sh = sh) ∧ i + m ≤ b.length ∧ b.drop (i + m) = R := by
  have hl := congrArg List.length h
  rw [List.length_drop, List.length_append, beM_len] at hl
  have hle : i + m ≤ b.length := by omega
  refine ⟨?_, if_pos hle, fun sh => if_pos hle, hle, ?_⟩
  · unfold getN
    rw [if_pos hle, h, List.take_left' (beM_len m z), getV_back hm hin hz.1 hz.2]
  · rw [← List.drop_drop, h, List.drop_left' (beM_len m z)]
theorem in64_of {m : Nat} {z : Int} (hm : m = 1 ∨ m = 2 ∨ m = 4) (h : inM m z = true) : in64 z := by
  unfold inM at h
  rcases hm with rfl | rfl | rfl
  all_goals
    simp at h
    exact ⟨by omega, by omega⟩
theorem lines_read {b : List UInt8} : ∀ (ls : List LD) (i : Nat) (out : List LD) (R : List UInt8), b.drop i = ls.flatMap lnB ++ R → i ≤ b.length → ls.all lineOk = true → (∀ q ∈ ls, in64 q.a) → lnGo b ls.length ⟨i, false, out⟩ = ⟨i + 14 * ls.length, false, out ++ ls⟩ := by
  intro ls
  induction ls with
  | nil => intro i out R h hi _ _; show (⟨i, false, out⟩ : LS) = ⟨i + 0, false, out ++ []⟩; rw [List.append_nil]; rfl
  | cons q ls ih =>
    intro i out R h hi hok hw
    rw [List.all_cons, Bool.and_eq_true] at hok
    have hq := hok.1
    unfold lineOk at hq
    simp only [List.all_cons, List.all_nil, Bool.and_true, Bool.and_eq_true] at hq
    rw [List.flatMap_cons, lnB, List.append_assoc, List.append_assoc, List.append_assoc, List.append_assoc] at h
    obtain ⟨g1, a1, s1, l1, d1⟩ := read_at (.inr (.inl rfl)) h hi hq.1 (in64_of (.inr (.inl rfl)) hq.1)
    obtain ⟨g2, a2, s2, l2, d2⟩ := read_at (.inr (.inl rfl)) d1 l1 hq.2.1 (in64_of (.inr (.inl rfl)) hq.2.1)
    obtain ⟨g3, a3, s3, l3, d3⟩ := read_at (.inr (.inl rfl)) d2 l2 hq.2.2 (in64_of (.inr (.inl rfl)) hq.2.2)
    obtain ⟨g4, a4, s4, l4, d4⟩ := read_at (m := 8) (.inr (.inr (.inr rfl))) d3 l3 (by simp [inM]) (hw q (by simp))
    show lnGo b ls.length ⟨lnA b i, lnSh b i false, out ++ [lnAt b i]⟩ = _
    have e1 : lnA b i = i + 2 + 2 + 2 + 8 := by unfold lnA; rw [a1, a2, a3, a4]
    have e2 : lnSh b i false = false := by unfold lnSh; rw [a1, a2, a3, s1, s2, s3, s4]
    have e3 : lnAt b i = q := by unfold lnAt; rw [a1, a2, a3, g1, g2, g3, g4]
    rw [e1, e2, e3, ih _ _ R d4 l4 hok.2 fun x hx => hw x (by simp [hx])]
    simp only [List.length_cons, List.append_assoc, List.singleton_append, LS.mk.injEq, and_true, true_and]
    omega
theorem flat14 : ∀ (ls : List LD), (ls.flatMap lnB).length = 14 * ls.length := by
  intro ls
  induction ls with
  | nil => rfl
  | cons q ls ih =>
    have : (List.flatMap lnB (q :: ls)).length = 14 + 14 * ls.length := by rw [List.flatMap_cons, List.length_append, lnB_len, ih]
    rw [this, List.length_cons]
    omega
theorem flat_drop : ∀ (ls : List LD) (j : Nat) (q : LD), ls[j]? = some q → ∃ R, (ls.flatMap lnB).drop (14 * j) = lnB q ++ R := by
  intro ls
  induction ls with
  | nil => intro j q h; simp at h
  | cons x ls ih =>
    intro j q h
    rw [List.flatMap_cons]
    cases j with
    | zero =>
      obtain rfl : x = q := by simpa using h
      exact ⟨_, rfl⟩
    | succ j =>
      rw [show 14 * (j + 1) = 14 + 14 * j by omega, ← List.drop_drop, List.drop_left' (lnB_len x)]
      exact ih j q (by simpa using h)
/-- What was written is read. -/
theorem read_back (c : CD) (h : mayB c = true) (hw : wfC c) : (cmdOf (encB c) = c ∧ (lnOf (encB c)).sh = false) ∧ (rcmdOf (encB c) = c ∧ szR (encB c)) := by
  have hf := encB_flat c h
  obtain ⟨h1, h2, h3, h4, h5, h6, h7⟩ := (mayB_iff c).1 h
  unfold knownB at h1
  rw [Bool.and_eq_true, decide_eq_true_eq, decide_eq_true_eq] at h1
  simp only [List.all_cons, List.all_nil, Bool.and_true, Bool.and_eq_true] at h4 h5 h6
  obtain ⟨k, y, x, f, o, n, p, d, l, a, ab, nm, ls⟩ := c
  dsimp only at *
  generalize encB ⟨k, y, x, f, o, n, p, d, l, a, ab, nm, ls⟩ = b at hf ⊢
  have i1 := in1 (show 0 ≤ k by omega) (by omega)
  have ib := in1 (z := if ab then 1 else 0) (by split <;> omega) (by split <;> omega)
  have il := in1 (z := (nm.length : Int)) (by omega) (by omega)
  have in_ := in1 (z := (ls.length : Int)) (by omega) (by omega)
  have hf0 := hf
  rw [← List.drop_zero (l := b)] at hf0
  obtain ⟨g0, a0, s0, l0, d0⟩ := read_at (i := 0) (.inl rfl) hf0 (Nat.zero_le _) i1 (in64_of (.inl rfl) i1)
  obtain ⟨g1, a1, s1, l1, d1⟩ := read_at (.inr (.inl rfl)) d0 l0 h4.1 (in64_of (.inr (.inl rfl)) h4.1)
  obtain ⟨g2, a2, s2, l2, d2⟩ := read_at (.inr (.inl rfl)) d1 l1 h4.2.1 (in64_of (.inr (.inl rfl)) h4.2.1)
  obtain ⟨g3, a3, s3, l3, d3⟩ := read_at (.inr (.inl rfl)) d2 l2 h4.2.2.1 (in64_of (.inr (.inl rfl)) h4.2.2.1)
  obtain ⟨g4, a4, s4, l4, d4⟩ := read_at (.inr (.inl rfl)) d3 l3 h4.2.2.2.1 (in64_of (.inr (.inl rfl)) h4.2.2.2.1)
  obtain ⟨g5, a5, s5, l5, d5⟩ := read_at (.inr (.inl rfl)) d4 l4 h4.2.2.2.2.1 (in64_of (.inr (.inl rfl)) h4.2.2.2.2.1)
  obtain ⟨g6, a6, s6, l6, d6⟩ := read_at (.inr (.inl rfl)) d5 l5 h4.2.2.2.2.2 (in64_of (.inr (.inl rfl)) h4.2.2.2.2.2)
  obtain ⟨g7, a7, s7, l7, d7⟩ := read_at (.inr (.inr (.inl rfl))) d6 l6 h5 (in64_of (.inr (.inr rfl)) h5)
  obtain ⟨g8, a8, s8, l8, d8⟩ := read_at (.inl rfl) d7 l7 h6 (in64_of (.inl rfl) h6)
  obtain ⟨g9, a9, s9, l9, d9⟩ := read_at (m := 8) (.inr (.inr (.inr rfl))) d8 l8 (by simp [inM]) hw.1
  obtain ⟨g10, a10, s10, l10, d10⟩ := read_at (.inl rfl) d9 l9 ib (in64_of (.inl rfl) ib)
  obtain ⟨g11, a11, s11, l11, d11⟩ := read_at (.inl rfl) d10 l10 il (in64_of (.inl rfl) il)
  simp only [Nat.zero_add, Nat.reduceAdd] at *
  have hlen := congrArg List.length d11
  rw [List.length_drop, List.length_append, List.length_append, beM_len, flat14] at hlen
  have d12 : b.drop (28 + nm.length) = beM 1 (ls.length : Int) ++ ls.flatMap lnB := by
    rw [← List.drop_drop, d11, List.drop_left' rfl]
  obtain ⟨g12, a12, s12, l12, d13⟩ := read_at (.inl rfl) d12 (by omega) in_ (in64_of (.inl rfl) in_)
  have d13' : b.drop (28 + nm.length + 1) = ls.flatMap lnB ++ [] := by rw [List.append_nil]; exact d13
  have hln := lines_read ls (28 + nm.length + 1) [] [] d13' l12 h7 hw.2
  have htx : (b.drop 28).take nm.length = nm := by rw [d11, List.take_left' rfl]
  -- the bytes that the reference looks at
  have by1 : ∀ (i : Nat) (z : Int) (R : List UInt8), b.drop i = beM 1 z ++ R → inM 1 z = true → ((b.getD i 0).toNat : Int) = z := by
    intro i z R hd hin
    have hb : b[i]? = some (byteAt z 0) := by
      have : (b.drop i)[0]? = some (byteAt z 0) := by rw [hd]; rfl
      rw [List.getElem?_drop, Nat.add_zero] at this
      exact this
    rw [List.getD_eq_getElem?_getD, hb, Option.getD_some, byteAt_int z 0 (by decide)]
    unfold inM at hin
    simp at hin
    rw [Nat.pow_zero]
    omega
  have b26 := by1 26 _ _ d9 ib
  have b27 := by1 27 _ _ d10 il
  have bat := by1 _ _ _ d12 in_
  have hab : ((if ab then (1 : Int) else 0) == 1) = ab := by cases ab <;> rfl
  refine ⟨?_, ?_⟩
  · have p0 : pos b 0 = 0 := rfl
    have p1 : pos b 1 = 1 := a0
    have p2 : pos b 2 = 3 := by show rdA b (pos b 1) 2 = 3; rw [p1]; exact a1
    have p3 : pos b 3 = 5 := by show rdA b (pos b 2) 2 = 5; rw [p2]; exact a2
    have p4 : pos b 4 = 7 := by show rdA b (pos b 3) 2 = 7; rw [p3]; exact a3
    have p5 : pos b 5 = 9 := by show rdA b (pos b 4) 2 = 9; rw [p4]; exact a4
    have p6 : pos b 6 = 11 := by show rdA b (pos b 5) 2 = 11; rw [p5]; exact a5
    have p7 : pos b 7 = 13 := by show rdA b (pos b 6) 2 = 13; rw [p6]; exact a6
    have p8 : pos b 8 = 17 := by show rdA b (pos b 7) 4 = 17; rw [p7]; exact a7
    have p9 : pos b 9 = 18 := by show rdA b (pos b 8) 1 = 18; rw [p8]; exact a8
    have p10 : pos b 10 = 26 := by show rdA b (pos b 9) 8 = 26; rw [p9]; exact a9
    have p11 : pos b 11 = 27 := by show rdA b (pos b 10) 1 = 27; rw [p10]; exact a10
    have p12 : pos b 12 = 28 := by show rdA b (pos b 11) 1 = 28; rw [p11]; exact a11
    have q12 : shr b 12 = false := by
      have q1 : shr b 1 = false := s0 false
      have q2 : shr b 2 = false := by show rdS b (pos b 1) 2 (shr b 1) = false; rw [p1, q1]; exact s1 false
      have q3 : shr b 3 = false := by show rdS b (pos b 2) 2 (shr b 2) = false; rw [p2, q2]; exact s2 false
      have q4 : shr b 4 = false := by show rdS b (pos b 3) 2 (shr b 3) = false; rw [p3, q3]; exact s3 false
      have q5 : shr b 5 = false := by show rdS b (pos b 4) 2 (shr b 4) = false; rw [p4, q4]; exact s4 false
      have q6 : shr b 6 = false := by show rdS b (pos b 5) 2 (shr b 5) = false; rw [p5, q5]; exact s5 false
      have q7 : shr b 7 = false := by show rdS b (pos b 6) 2 (shr b 6) = false; rw [p6, q6]; exact s6 false
      have q8 : shr b 8 = false := by show rdS b (pos b 7) 4 (shr b 7) = false; rw [p7, q7]; exact s7 false
      have q9 : shr b 9 = false := by show rdS b (pos b 8) 1 (shr b 8) = false; rw [p8, q8]; exact s8 false
      have q10 : shr b 10 = false := by show rdS b (pos b 9) 8 (shr b 9) = false; rw [p9, q9]; exact s9 false
      have q11 : shr b 11 = false := by show rdS b (pos b 10) 1 (shr b 10) = false; rw [p10, q10]; exact s10 false
      show rdS b (pos b 11) 1 (shr b 11) = false
      rw [p11, q11]
      exact s11 false
    have t0 : tn b = nm.length := by show (getN b (pos b 11) 1).toNat = _; rw [p11, g11]; omega
    have htx2 : txV b 28 nm.length = nm := by
      unfold txV
      rw [if_pos (by omega), htx]
    have ra : rdA b 28 nm.length = 28 + nm.length := if_pos (by omega)
    have rs : rdS b 28 nm.length false = false := if_pos (by omega)
    have hL : lnOf b = ⟨28 + nm.length + 1 + 14 * ls.length, false, ls⟩ := by
      unfold lnOf
      rw [p12, q12, t0, ra, rs]
      unfold lnS
      rw [g12, a12, s12, Int.toNat_natCast, hln]
      rfl
    refine ⟨?_, by rw [hL]⟩
    unfold cmdOf
    rw [hL, p12, t0, htx2]
    have v0 : vl b 0 = k := g0
    have v1 : vl b 1 = y := by show getN b (pos b 1) 2 = _; rw [p1]; exact g1
    have v2 : vl b 2 = x := by show getN b (pos b 2) 2 = _; rw [p2]; exact g2
    have v3 : vl b 3 = f := by show getN b (pos b 3) 2 = _; rw [p3]; exact g3
    have v4 : vl b 4 = o := by show getN b (pos b 4) 2 = _; rw [p4]; exact g4
    have v5 : vl b 5 = n := by show getN b (pos b 5) 2 = _; rw [p5]; exact g5
    have v6 : vl b 6 = p := by show getN b (pos b 6) 2 = _; rw [p6]; exact g6
    have v7 : vl b 7 = d := by show getN b (pos b 7) 4 = _; rw [p7]; exact g7
    have v8 : vl b 8 = l := by show getN b (pos b 8) 1 = _; rw [p8]; exact g8
    have v9 : vl b 9 = a := by show getN b (pos b 9) 8 = _; rw [p9]; exact g9
    have v10 : vl b 10 = (if ab then 1 else 0) := by show getN b (pos b 10) 1 = _; rw [p10]; exact g10
    rw [v0, v1, v2, v3, v4, v5, v6, v7, v8, v9, v10, hab]
  · have t27 : (b.getD 27 0).toNat = nm.length := by omega
    have hra : rat b = 28 + nm.length := by unfold rat; rw [t27]
    have hmy : rmany b = ls.length := by unfold rmany; rw [hra]; omega
    have hbl : b.length = 28 + nm.length + 1 + 14 * ls.length := by omega
    refine ⟨?_, by omega, by rw [hra]; omega, by rw [hra, hmy]; exact hbl⟩
    unfold rcmdOf
    rw [g0, g1, g2, g3, g4, g5, g6, g7, g8, g9, b26, hab, t27, htx, hra, hmy]
    congr 1
    unfold linesR
    apply List.ext_getElem
    · simp
    · intro j j1 j2
      have hj : ls[j]? = some ls[j] := List.getElem?_eq_getElem j2
      simp only [List.getElem_map, List.getElem_range]
      obtain ⟨R, hR⟩ := flat_drop ls j _ hj
      rw [← d13, List.drop_drop] at hR
      have hq := List.all_eq_true.1 h7 _ (List.getElem_mem j2)
      unfold lineOk at hq
      simp only [List.all_cons, List.all_nil, Bool.and_true, Bool.and_eq_true] at hq
      rw [lnB, List.append_assoc, List.append_assoc, List.append_assoc] at hR
      have hle : 28 + nm.length + 1 + 14 * j ≤ b.length := by omega
      obtain ⟨u1, _, _, m1, e1⟩ := read_at (.inr (.inl rfl)) hR hle hq.1 (in64_of (.inr (.inl rfl)) hq.1)
      obtain ⟨u2, _, _, m2, e2⟩ := read_at (.inr (.inl rfl)) e1 m1 hq.2.1 (in64_of (.inr (.inl rfl)) hq.2.1)
      obtain ⟨u3, _, _, m3, e3⟩ := read_at (.inr (.inl rfl)) e2 m2 hq.2.2 (in64_of (.inr (.inl rfl)) hq.2.2)
      obtain ⟨u4, _, _, m4, e4⟩ := read_at (m := 8) (.inr (.inr (.inr rfl))) e3 m3 (by simp [inM]) (hw.2 _ (List.getElem_mem j2))
      unfold lnR
      rw [u1, u2, show 28 + nm.length + 1 + 14 * j + 4 = 28 + nm.length + 1 + 14 * j + 2 + 2 by omega, u3, show 28 + nm.length + 1 + 14 * j + 6 = 28 + nm.length + 1 + 14 * j + 2 + 2 + 2 by omega, u4]
theorem getV_in (l : List UInt8) : in64 (getV l) := by
  unfold getV in64
  rw [IntKind.wrap_i64]
  omega
theorem getN_in (b : List UInt8) (i m : Nat) : in64 (getN b i m) := by
  unfold getN
  split
  · exact getV_in _
  · exact ⟨by decide, by decide⟩
theorem lnGo_in (b : List UInt8) : ∀ (n : Nat) (s : LS), (∀ q ∈ s.out, in64 q.a) → ∀ q ∈ (lnGo b n s).out, in64 q.a := by
  intro n
  induction n with
  | zero => intro s h; exact h
  | succ n ih =>
    intro s h
    obtain ⟨i, sh, out⟩ := s
    cases sh with
    | true => exact h
    | false =>
      refine ih ⟨lnA b i, lnSh b i false, out ++ [lnAt b i]⟩ fun q hq => ?_
      rcases List.mem_append.1 hq with hq | hq
      · exact h q hq
      · rw [List.mem_singleton.1 hq]
        exact getN_in _ _ _
/-- Both ways of reading say the same. -/
theorem both (b : List UInt8) : okD b = okR b ∧ (okD b = true → cmdOf b = rcmdOf b ∧ mayB (cmdOf b) = true ∧ encB (cmdOf b) = b) := by
  have hD : okD b = true → mayB (cmdOf b) = true ∧ encB (cmdOf b) = b ∧ wfC (cmdOf b) := fun h => by
    unfold okD at h
    simp only [Bool.and_eq_true, Bool.not_eq_true', beq_iff_eq] at h
    exact ⟨h.2.1, h.2.2, getN_in _ _ _, lnGo_in b _ _ (fun q hq => by cases hq)⟩
  have hR : okR b = true → mayB (rcmdOf b) = true ∧ encB (rcmdOf b) = b ∧ wfC (rcmdOf b) := fun h => by
    unfold okR at h
    simp only [Bool.and_eq_true, decide_eq_true_eq, beq_iff_eq] at h
    refine ⟨h.2.1, h.2.2, getN_in _ _ _, fun q hq => ?_⟩
    obtain ⟨j, _, rfl⟩ := List.mem_map.1 hq
    exact getN_in _ _ _
  have dr : okD b = true → okR b = true ∧ cmdOf b = rcmdOf b := fun h => by
    obtain ⟨h1, h2, h3⟩ := hD h
    obtain ⟨_, r1, r2⟩ := read_back _ h1 h3
    rw [h2] at r1 r2
    refine ⟨?_, r1.symm⟩
    unfold okR
    rw [r1, h1, h2, decide_eq_true r2, beq_self_eq_true]
    rfl
  have rd : okR b = true → okD b = true := fun h => by
    obtain ⟨h1, h2, h3⟩ := hR h
    obtain ⟨⟨r1, r2⟩, _⟩ := read_back _ h1 h3
    rw [h2] at r1 r2
    unfold okD
    rw [r1, r2, h1, h2, beq_self_eq_true]
    rfl
  refine ⟨?_, fun h => ⟨(dr h).2, (hD h).1, (hD h).2.1⟩⟩
  rw [Bool.eq_iff_iff]
  exact ⟨fun h => (dr h).1, rd⟩
theorem back (c : CD) (h : mayB c = true) (hw : wfC c) : okD (encB c) = true ∧ cmdOf (encB c) = c := by
  obtain ⟨⟨r1, r2⟩, _⟩ := read_back c h hw
  refine ⟨?_, r1⟩
  unfold okD
  rw [r1, r2, h, beq_self_eq_true]
  rfl
end Go.Proofs.Ytkahpaipciooiac.Al

/- Words of this session beside the printed words: a make with a capacity of its own, and the built-in copy into a row of the call's own, each as a law of the walk. They hold for every program and every world that meets their premises. -/
import Derived.Test.YtkahpaipciooiabWMore
import Derived.Laws.CopyOwn
import Derived.Laws.MakeOwn
import Derived.Lib.SliceRun
namespace Go.Proofs.YtkahpaipciooiabW.XWords
open Go.RowKit Go.Proofs.YtkahpaipciooiabW.PrintWords Go.Proofs.YtkahpaipciooiabW.PrintLast Go.Proofs.YtkahpaipciooiabW.PrintMore

section
variable {P : Program} {ops : Array Oper} {rest : List Oper} {o : Oper} {a : Act} {Q : Exit → Act → World → Prop} {α : Type}

/-- 'make([]T, n, m)': n elements, each the zero; place for m. -/
theorem R_make_cap (d : Kd α) {w0 W : World} (base e : Nat) (hgd : o.guard = none) {N : Tmp} (_hd : o.dst = some N) (t : TypeId) (x y : Operand) (ho : o.op = .makeSlice t x y) (n m : Int) (hx : a.eval x = .int .i64 n) (hy : a.eval y = .int .i64 m)
    (ht : P.underlying t = some (.slice e)) (z : Value) (bytes : Nat) (hinfo : (P.info? e).map (fun i => (i.zero, i.size, i.bytes)) = some (some z, d.sz, bytes)) (hz : z.cells.size = d.sz) (hs0 : 0 < d.sz) (hb0 : 0 < bytes)
    (z0 : α) {ok okp : Nat → Prop} (hzero : d.M W base okp z0 z.cells.toList) (hok : ∀ k, okp k → ok k) (hfresh : ok W.heap.size) (h0 : 0 ≤ n) (hnm : n ≤ m) (hl : m.toNat * bytes ≤ 281474976710656) (HB : Below base w0 W) (hbase : base ≤ W.heap.size)
    (h : ∀ v1 w1, d.R e w1 base ok v1 (List.replicate n.toNat z0) → Below base w0 w1 → W.grownBy w1 none → (∃ b, v1.ownBlock = some b ∧ W.heap.size ≤ b) → wpList P ops Q rest (a.put o.dst v1) w1) : wpList P ops Q (o :: rest) a W := by
  obtain ⟨p, rfl⟩ := Int.eq_ofNat_of_zero_le h0
  obtain ⟨q, rfl⟩ := Int.eq_ofNat_of_zero_le (Int.le_trans h0 hnm)
  simp only [Int.toNat_natCast] at hl h
  obtain ⟨i0, hi, hzz⟩ := Option.map_eq_some_iff.1 hinfo
  simp only [Prod.mk.injEq] at hzz
  obtain ⟨hz0, hz1, hz2⟩ := hzz
  have hpq : p ≤ q := by omega
  have hm : q ≤ 281474976710656 := Nat.le_trans (Nat.le_mul_of_pos_right _ hb0) hl
  have hr := run_make (P := P) W t e i0 z ht hi hz0 .i64 .i64 (p : Int) (q : Int) (by omega) (by omega)
    (by
      have h3 : ((i0.bytes * q : Nat) : Int) ≤ 281474976710656 := by rw [hz2, Nat.mul_comm]; omega
      rwa [Int.natCast_mul] at h3) (by omega)
  simp only [Int.toNat_natCast] at hr
  rw [hz1] at hr
  have hfull : d.R e (W.alloc (.cells (madeCells z.cells (q * d.sz)) e)) base ok (.slice (some ⟨W.heap.size, 0, none⟩) q q) (List.replicate q z0) := by
    refine ⟨fun k hk => ?_, (madeCells z.cells (q * d.sz)).toList, ?_, ?_⟩
    · have : W.heap.size = k := by simpa [Value.ownBlock] using hk
      subst this
      exact hfresh
    · have h2 := World.ownsRow_lit (base := base) (e := e) (size := d.sz) W (madeCells z.cells (q * d.sz)) q hbase (by simp [maxLen]; omega) (by simp [size_madeCells])
      simpa using h2
    · refine (Kd.reps_made (R := d.M W base okp) hz hs0 hzero q).imp_ (fun p c hp => d.M_mono (fun k hk => ⟨hok k hk.1, fun he => ?_⟩) (Kd.M_below (d.M_bound hp) (below_alloc (Below.refl _ _) _)))
      have h3 : k = W.heap.size := by simpa [Value.ownBlock] using he
      have := hk.2.2.1
      omega
  have hcut := Kd.R_take hfull (m := p) (by simpa using hpq)
  rw [List.take_replicate, Nat.min_eq_left hpq] at hcut
  exact Kd.event_run hgd (by simp [execOp, ho, hx, hy, hr]) (h _ _ hcut (HB.alloc hbase _) (World.grownBy_alloc W _ none) ⟨W.heap.size, by simp [Value.ownBlock], Nat.le_refl _⟩)
end
section
variable {P : Program} {ops : Array Oper} {rest : List Oper} {o : Oper} {a : Act} {Q : Exit → Act → World → Prop} {α : Type}

/-- 'copy(xs, ys)' into a row of the call's own: as many as the shorter of the two has go over. -/
theorem R_copy {enc : α → Value} {h1 : ∀ x, (enc x).oneCell' = true} {w0 W : World} (base : Nat) (hgd : o.guard = none) (s x : Operand) (t tx e : TypeId)
    (ho : o.op = .call { callee := .builtin .copy, args := #[s, x], argTypes := #[t, tx] })
    (ht : P.underlying t = some (.slice e)) {z : Value} {bytes : Nat} (hinfo : (P.info? e).map (fun i => (i.zero, i.size, i.bytes)) = some (some z, 1, bytes))
    (v : Value) (xs ys : List α) (A : Option Addr) (m c : Nat) (ok : Nat → Prop) (hs : a.eval s = v) (hx : a.eval x = .slice A m c)
    (HO : (Kd.scalar enc h1).R e W base ok v xs) (HR : (Kd.scalar enc h1).C W A m ys) (HB : Below base w0 W) (_hbase : base ≤ W.heap.size)
    (h : ∀ w1, (Kd.scalar enc h1).R e w1 base ok v (ys.take xs.length ++ xs.drop ys.length) → Below base w0 w1 → W.grownBy w1 v.ownBlock → (v.ownBlock = v.ownBlock ∨ ∃ b, v.ownBlock = some b ∧ W.heap.size ≤ b) → wpList P ops Q rest (a.put o.dst (goInt (Nat.min ys.length xs.length))) w1) :
    wpList P ops Q (o :: rest) a W := by
  have hown := Kd.own_of_R HO
  have hm : ys.length = m := HR.1
  have hsz : (P.info? e).map (·.size) = some 1 := by
    obtain ⟨i0, hi, hzz⟩ := Option.map_eq_some_iff.1 hinfo
    simp only [Prod.mk.injEq] at hzz
    rw [hi]; simp [hzz.2.1]
  obtain ⟨dp, dc, rfl⟩ := own_slice hown
  by_cases h0 : Nat.min m xs.length = 0
  · have hl : ys.take xs.length ++ xs.drop ys.length = xs := by
      rcases Nat.eq_zero_or_pos m with h1 | h1
      · rw [List.eq_nil_of_length_eq_zero (hm.trans h1)]; simp
      · have h2 : xs.length = 0 := by simp only [Nat.min_def] at h0; split at h0 <;> omega
        rw [List.eq_nil_of_length_eq_zero h2]; simp
    refine wpList_copy_nothing hgd s x t tx ho e ht hsz dp A xs.length dc m c hs hx h0 ?_
    have h3 := h W (by rw [hl]; exact HO) HB (World.grownBy.refl W _) (.inl rfl)
    rw [hm, h0] at h3
    exact h3
  · have hm0 : 0 < m := by exact Nat.pos_of_ne_zero (fun h1 => h0 (by rw [h1]; simp))
    have hx0 : 0 < xs.length := by exact Nat.pos_of_ne_zero (fun h1 => h0 (by rw [h1]; simp))
    obtain ⟨ad, rfl, hc⟩ := HR.2.2 hm0
    rcases hown.2 with ⟨_, hn⟩ | ⟨g, cap, cur, he, hbg, hg, hnc, hcm, hcs, htk⟩
    · omega
    · injection he with e1 e2 e3
      subst e1; subst e3
      have hlen : (encs enc ys).length = m := by simp [encs, hm]
      have hkl : ((encs enc ys).take xs.length).length = Nat.min m xs.length := by rw [List.length_take, hlen]; exact Nat.min_comm _ _
      have hcur : cur.toList.take xs.length = encs enc xs := by simpa using htk
      refine wpList_copy_own hgd s x t tx ho e ht hsz g 0 xs.length dc ad m c hs hx cur e hg ((encs enc ys).take xs.length) hkl ?_ ?_ ?_ ?_
      · intro j u hj
        have hj2 : (encs enc ys)[j]? = some u := by
          rw [List.getElem?_take] at hj
          split at hj
          · exact hj
          · cases hj
        have hjl : j < ys.length := by
          have h4 := (List.getElem?_eq_some_iff.1 hj2).1
          simpa [encs] using h4
        obtain ⟨c1, _, hK, hcell⟩ := hc j _ (List.getElem?_eq_getElem hjl)
        have hK' : c1 = [enc ys[j]] := hK
        subst hK'
        have h5 := hcell 0 (enc ys[j]) rfl
        have h6 : u = enc ys[j] := by
          simp only [encs, List.getElem?_map, List.getElem?_eq_getElem hjl, Option.map_some, Option.some.injEq] at hj2
          exact hj2.symm
        rw [h6]
        simpa [Kd.scalar] using h5
      · rw [hkl]
        have hmn : Nat.min m xs.length ≤ xs.length := Nat.min_le_right _ _
        simp only [Nat.mul_one] at hcs
        omega
      · intro u hu
        have h7 := List.mem_of_mem_take hu
        simp only [encs, List.mem_map] at h7
        obtain ⟨z1, _, rfl⟩ := h7
        exact h1 z1
      · have hput : (goInt ((encs enc ys).take xs.length).length) = goInt (Nat.min ys.length xs.length) := by rw [hkl, hm]
        rw [hput]
        have hcl : cur.toList.length = dc := by simpa using hcs
        have hyl : (ys.take xs.length ++ xs.drop ys.length).length = xs.length := by
          simp only [List.length_append, List.length_take, List.length_drop, Nat.min_def]
          split <;> omega
        refine h _ (Kd.R_of_own ?_ (fun k hk => HO.1 k hk)) (HB.trans ⟨rfl, rfl, rfl, by simp [World.setRow], fun k hk => setRow_other W g k _ (by omega)⟩) ⟨rfl, rfl, rfl, by simp [World.setRow], fun k _ hne => setRow_other W g k _ (fun hkg => hne (by rw [hkg]; rfl))⟩ (.inl rfl)
        refine ⟨by simp [encs], .inr ⟨g, dc, _, by rw [hyl], hbg, setRow_heap W g cur _ e (0, 0) hg, by rw [hyl]; exact hnc, hcm, ?_, ?_⟩⟩
        · simp only [List.take_zero, List.nil_append, List.size_toArray, List.length_append, List.length_drop, hkl]
          have hmn : Nat.min m xs.length ≤ xs.length := Nat.min_le_right _ _
          omega
        · simp only [List.take_zero, List.nil_append, Nat.zero_add, Nat.mul_one]
          rw [hyl]
          have hE : encs enc (ys.take xs.length ++ xs.drop ys.length) = (encs enc ys).take xs.length ++ (encs enc xs).drop ys.length := by simp [encs, List.map_take, List.map_drop]
          rw [hE, ← hcur, List.take_append, hkl]
          have h8 : ((encs enc ys).take xs.length).take xs.length = (encs enc ys).take xs.length := by rw [List.take_take]; simp
          rw [h8]
          congr 1
          rw [hm]
          simp only [Nat.min_def]
          split
          · rw [List.drop_take]
          · rw [List.drop_eq_nil_of_le (as := List.take xs.length cur.toList) (by simp; omega)]
            simp
end

section
variable {P : Program} {ops : Array Oper} {rest : List Oper} {o : Oper} {a : Act} {Q : Exit → Act → World → Prop} {α : Type}
/-- '[]byte("..")' of a constant: the literal's row gets the run-time's mark; from then on it is only read. -/
theorem R_mark {enc : α → Value} {h1 : ∀ x, (enc x).oneCell' = true} {w0 W : World} (base : Nat) (hgd : o.guard = none) (s : Operand) (t e : TypeId)
    (ho : o.op = .convert t t s) (ht : P.underlying t = some (.slice e)) (he : P.underlying e = some (.int .u8))
    (A : Option Addr) (c : Nat) (xs : List α) (ok : Nat → Prop) (hs : a.eval s = .slice A xs.length c)
    (HO : (Kd.scalar enc h1).R e W base ok (.slice A xs.length c) xs) (hn0 : 0 < xs.length) (HB : Below base w0 W) (_hbase : base ≤ W.heap.size)
    (h : ∀ w1, (Kd.scalar enc h1).C w1 A xs.length xs → Below base w0 w1 → W.grownBy w1 (Value.slice A xs.length c).ownBlock → ((Value.slice A xs.length c).ownBlock = (Value.slice A xs.length c).ownBlock ∨ ∃ b, (Value.slice A xs.length c).ownBlock = some b ∧ W.heap.size ≤ b) → xs.length ≤ c → wpList P ops Q rest (a.put o.dst (.slice A xs.length c)) w1) :
    wpList P ops Q (o :: rest) a W := by
  have hr := Kd.R_reads' HO
  rcases (Kd.own_of_R HO).2 with ⟨_, hn⟩ | ⟨g, cap, cur, hv, hbg, hg, hnc, hcm, hcs, htk⟩
  · omega
  · injection hv with e1 e2 e3
    subst e1; subst e3
    have hsh : W.shape? g = some (e, cur.size) := by unfold World.shape?; rw [hg]
    have hrun : (convert t t (.slice (some ⟨g, 0, none⟩) xs.length c)).run P W = .ok (.slice (some ⟨g, 0, none⟩) xs.length c) (W.freeze ⟨g, cur.size, none⟩ 1) := by
      simp [convert, run_underlying ht, run_underlying he, markStringish, hsh]
    have hother : ∀ k, k ≠ g → (W.freeze ⟨g, cur.size, none⟩ 1).heap[k]? = W.heap[k]? := by
      intro k hk
      unfold World.freeze
      simp [Array.getElem?_modify, Ne.symm hk]
    have hcells : ∀ ad : Addr, (W.freeze ⟨g, cur.size, none⟩ 1).cell? ad = W.cell? ad := by
      intro ad
      by_cases hk : ad.block = g
      · unfold World.freeze World.cell?
        simp only [hk]
        simp [Array.getElem?_modify, hg]
      · exact World.cell?_of_block (hother ad.block hk)
    have hsize : (W.freeze ⟨g, cur.size, none⟩ 1).heap.size = W.heap.size := by unfold World.freeze; simp
    refine Kd.event_run hgd (w1 := W.freeze ⟨g, cur.size, none⟩ 1) (v := .slice (some ⟨g, 0, none⟩) xs.length c) (by simp [execOp, ho, hs, hrun]) (h _ ?_ ?_ ?_ (.inl rfl) hr.2.1)
    · obtain ⟨h2, h3, h4⟩ := hr.2.2
      refine ⟨h2, h3, fun hp => ?_⟩
      obtain ⟨ad, hA, hc⟩ := h4 hp
      refine ⟨ad, hA, fun j p hj => ?_⟩
      obtain ⟨c1, hcl, hK, hcc⟩ := hc j p hj
      exact ⟨c1, hcl, hK, fun i u hu => (hcells _).trans (hcc i u hu)⟩
    · exact HB.trans ⟨by unfold World.freeze; simp, by unfold World.freeze; simp, by unfold World.freeze; simp, by rw [hsize]; exact Nat.le_refl _, fun k hk => hother k (by omega)⟩
    · exact ⟨by unfold World.freeze; simp, by unfold World.freeze; simp, by unfold World.freeze; simp, by rw [hsize]; exact Nat.le_refl _, fun k _ hne => hother k (fun hkg => hne (by rw [hkg]; rfl))⟩
end
@[go_sem] theorem unsigned_u8 : Go.IntKind.u8.signed = false := rfl
@[go_sem] theorem unsigned_u16 : Go.IntKind.u16.signed = false := rfl
@[go_sem] theorem unsigned_u32 : Go.IntKind.u32.signed = false := rfl
@[go_sem] theorem unsigned_u64 : Go.IntKind.u64.signed = false := rfl
end Go.Proofs.YtkahpaipciooiabW.XWords

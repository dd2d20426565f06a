-- PRINTED for this claim by a program of this session's (wip/xp); Lean checks it
import Derived.Test.YtkahpaipciooiabPKeysOrderx0
import Derived.Test.YtkahpaipciooiabPKeysOrderx1
import Derived.Test.YtkahpaipciooiabPKeysOrderx2
namespace Go.Proofs.Ytkahpaipciooiab.PKeysOrder
open Go.RowKit Go.Proofs.YtkahpaipciooiabW.PrintWords Go.Proofs.YtkahpaipciooiabW.PrintLast Go.Proofs.YtkahpaipciooiabW.PrintMore
attribute [local go_sem] max2_int min2_int max_two min_two max_three min_three max_four min_four   -- for this text's walks alone
set_option linter.unusedVariables false
set_option linter.unusedSimpArgs false

/-! ### exchequerlaw18_KeysOrder: function 3 -/
def exchequerlaw18_KeysOrder.f (k : Nat) (a0 : Int) (a1_0 : Int) (a1_1 : Int) (a1_2 : Int) (a2_0 : Int) (a2_1 : Int) (a2_2 : Int) : Option (Bool) := (some (([wrap64 (a1_0), wrap64 (a1_1), wrap64 (a1_2)] : List Int) : List Int)).bind fun y167 => ((some (([wrap64 (a2_0), wrap64 (a2_1), wrap64 (a2_2)] : List Int) : List Int)).bind fun y170 => ((keys_Key.f k a0 y167).bind fun t173 => ((keys_Split.f k t173).bind fun bt176 => (if bt176.2.2 = true then (if bt176.1 = a0 then ((slices_Equal_int_int.f k bt176.2.1 y167).bind fun t181 => (if t181 = true then ((keys_Key.f k a0 y167).bind fun t182 => ((keys_Key.f k a0 y170).bind fun t185 => ((bytes_Compare.f t182 t185).bind fun t188 => ((slices_Compare_int_int.f k y167 y170).bind fun t189 => (if t188 = t189 then ((exchequerlaw18_awake.f k).bind fun t190 => (some t190)) else (some false)))))) else (some false))) else (some false)) else (some false)))))
theorem exchequerlaw18_KeysOrder.mono : ∀ a0 a1 a2 a3 a4 a5 a6 k, LeO (exchequerlaw18_KeysOrder.f k a0 a1 a2 a3 a4 a5 a6) (exchequerlaw18_KeysOrder.f (k + 1) a0 a1 a2 a3 a4 a5 a6) := by
  intro a0 a1 a2 a3 a4 a5 a6 k
  unfold exchequerlaw18_KeysOrder.f
  repeat' first
      | (with_reducible exact exchequerlaw18_awake.mono _)
      | (with_reducible exact keys_Key.mono _ _ _)
      | (with_reducible exact keys_Split.mono _ _)
      | (with_reducible exact slices_Compare_int_int.mono _ _ _)
      | (with_reducible exact slices_Equal_int_int.mono _ _ _)
      | (with_reducible exact LeO.refl _)
      | (with_reducible exact LeO.none _)
      | (with_reducible refine LeO.ite ?_ ?_)
      | (with_reducible refine LeO.bind ?_ (fun _ => ?_))
      | exact exchequerlaw18_awake.mono _
      | exact keys_Key.mono _ _ _
      | exact keys_Split.mono _ _
      | exact slices_Compare_int_int.mono _ _ _
      | exact slices_Equal_int_int.mono _ _ _
      | exact LeO.none _
      | refine LeO.ite ?_ ?_
      | refine LeO.bind ?_ (fun _ => ?_)
def exchequerlaw18_KeysOrder.T1 : Bool × List (List Nat × List Nat) := (true, [([], []), ([0], [0]), ([1], [1]), ([], []), ([3], [3]), ([4], [4]), ([], []), ([6], [6]), ([7], [7]), ([2, 5, 8], [2, 5, 8]), ([], []), ([10], [10]), ([11], [11]), ([], []), ([13], [13]), ([14], [14]), ([], []), ([16], [16]), ([17], [17]), ([12, 15, 18], [12, 15, 18]), ([9, 0, 1, 2, 3, 4, 5, 6, 7, 8, 9], [9]), ([19, 20, 0, 1, 2, 3, 4, 5, 6, 7, 8, 9, 10, 11, 12, 13, 14, 15, 16, 17, 18, 19, 20], [19])])
def exchequerlaw18_KeysOrder.B1 : List Nat := [0, 1, 3, 0, 8, 24, 0, 64, 192, 511, 0, 1024, 3072, 0, 8192, 24576, 0, 65536, 196608, 523264, 1023, 2097151]
theorem exchequerlaw18_KeysOrder.tab1 : rtab .any (opsOf Try.f3 1) = exchequerlaw18_KeysOrder.T1 := by kernel_rfl
theorem exchequerlaw18_KeysOrder.bits1 : waitsOk exchequerlaw18_KeysOrder.T1.2 exchequerlaw18_KeysOrder.B1 = true := by kernel_rfl
set_option maxHeartbeats 8000000 in
set_option maxRecDepth 100000 in
theorem exchequerlaw18_KeysOrder.calls (k : Nat) (a0 : Int) (a1_0 : Int) (a1_1 : Int) (a1_2 : Int) (a2_0 : Int) (a2_1 : Int) (a2_2 : Int) (r : Bool) (w : World) (h : exchequerlaw18_KeysOrder.f k a0 a1_0 a1_1 a1_2 a2_0 a2_1 a2_2 = some r) (ht_ : Aside0 (r = true) := by exact ⟨rfl⟩) :
    Calls Try.prog 3 #[.int .u8 a0, .agg #[.int .u32 a1_0, .int .u32 a1_1, .int .u32 a1_2], .agg #[.int .u32 a2_0, .int .u32 a2_1, .int .u32 a2_2]] w fun e w' => e = .returned (.bool r) ∧ Below w.heap.size w w' := by
  have hu23 := Try.underlying23
  have HB := Aside0.mk (Below.refl w.heap.size w)
  have H : ((some (([wrap64 (a1_0), wrap64 (a1_1), wrap64 (a1_2)] : List Int) : List Int)).bind fun y167 => ((some (([wrap64 (a2_0), wrap64 (a2_1), wrap64 (a2_2)] : List Int) : List Int)).bind fun y170 => ((keys_Key.f k a0 y167).bind fun t173 => ((keys_Split.f k t173).bind fun bt176 => (if bt176.2.2 = true then (if bt176.1 = a0 then ((slices_Equal_int_int.f k bt176.2.1 y167).bind fun t181 => (if t181 = true then ((keys_Key.f k a0 y167).bind fun t182 => ((keys_Key.f k a0 y170).bind fun t185 => ((bytes_Compare.f t182 t185).bind fun t188 => ((slices_Compare_int_int.f k y167 y170).bind fun t189 => (if t188 = t189 then ((exchequerlaw18_awake.f k).bind fun t190 => (some t190)) else (some false)))))) else (some false))) else (some false)) else (some false)))))) = some r := h
  clear h
  obtain ⟨y167, hy167⟩ : ∃ y_ : List Int, y_ = (([wrap64 (a1_0), wrap64 (a1_1), wrap64 (a1_2)] : List Int)) := ⟨_, rfl⟩
  replace H : ((some (([wrap64 (a2_0), wrap64 (a2_1), wrap64 (a2_2)] : List Int) : List Int)).bind fun y170 => ((keys_Key.f k a0 y167).bind fun t173 => ((keys_Split.f k t173).bind fun bt176 => (if bt176.2.2 = true then (if bt176.1 = a0 then ((slices_Equal_int_int.f k bt176.2.1 y167).bind fun t181 => (if t181 = true then ((keys_Key.f k a0 y167).bind fun t182 => ((keys_Key.f k a0 y170).bind fun t185 => ((bytes_Compare.f t182 t185).bind fun t188 => ((slices_Compare_int_int.f k y167 y170).bind fun t189 => (if t188 = t189 then ((exchequerlaw18_awake.f k).bind fun t190 => (some t190)) else (some false)))))) else (some false))) else (some false)) else (some false))))) = some r := by first | (rw [hy167]; with_reducible exact H) | (have H2_ := (Option.bind_some _ _).symm.trans H; rw [hy167]; with_reducible exact H2_) | (have H2_ := (Option.bind_some _ _).symm.trans H; with_reducible exact H2_) | with_reducible exact H | (rw [hy167]; exact H) | exact H
  have Ny167 := Aside0.mk hy167
  clear hy167
  obtain ⟨y170, hy170⟩ : ∃ y_ : List Int, y_ = (([wrap64 (a2_0), wrap64 (a2_1), wrap64 (a2_2)] : List Int)) := ⟨_, rfl⟩
  replace H : ((keys_Key.f k a0 y167).bind fun t173 => ((keys_Split.f k t173).bind fun bt176 => (if bt176.2.2 = true then (if bt176.1 = a0 then ((slices_Equal_int_int.f k bt176.2.1 y167).bind fun t181 => (if t181 = true then ((keys_Key.f k a0 y167).bind fun t182 => ((keys_Key.f k a0 y170).bind fun t185 => ((bytes_Compare.f t182 t185).bind fun t188 => ((slices_Compare_int_int.f k y167 y170).bind fun t189 => (if t188 = t189 then ((exchequerlaw18_awake.f k).bind fun t190 => (some t190)) else (some false)))))) else (some false))) else (some false)) else (some false)))) = some r := by first | (rw [hy170]; with_reducible exact H) | (have H2_ := (Option.bind_some _ _).symm.trans H; rw [hy170]; with_reducible exact H2_) | (have H2_ := (Option.bind_some _ _).symm.trans H; with_reducible exact H2_) | with_reducible exact H | (rw [hy170]; exact H) | exact H
  have Ny170 := Aside0.mk hy170
  clear hy170
  replace H := Option.bind_eq_some_iff.mp H
  obtain ⟨t173, A40, H⟩ := H
  replace H : ((keys_Split.f k t173).bind fun bt176 => (if bt176.2.2 = true then (if bt176.1 = a0 then ((slices_Equal_int_int.f k bt176.2.1 y167).bind fun t181 => (if t181 = true then ((keys_Key.f k a0 y167).bind fun t182 => ((keys_Key.f k a0 y170).bind fun t185 => ((bytes_Compare.f t182 t185).bind fun t188 => ((slices_Compare_int_int.f k y167 y170).bind fun t189 => (if t188 = t189 then ((exchequerlaw18_awake.f k).bind fun t190 => (some t190)) else (some false)))))) else (some false))) else (some false)) else (some false))) = some r := H
  have A4 := Aside0.mk A40
  clear A40
  replace H := Option.bind_eq_some_iff.mp H
  obtain ⟨⟨t176, t177, t178⟩, A50, H⟩ := H
  replace H : (if t178 = true then (if t176 = a0 then ((slices_Equal_int_int.f k t177 y167).bind fun t181 => (if t181 = true then ((keys_Key.f k a0 y167).bind fun t182 => ((keys_Key.f k a0 y170).bind fun t185 => ((bytes_Compare.f t182 t185).bind fun t188 => ((slices_Compare_int_int.f k y167 y170).bind fun t189 => (if t188 = t189 then ((exchequerlaw18_awake.f k).bind fun t190 => (some t190)) else (some false)))))) else (some false))) else (some false)) else (some false)) = some r := H
  have A5 := Aside0.mk A50
  clear A50
  by_cases c6 : t178 = true
  · subst c6
    have H1 : (if t176 = a0 then ((slices_Equal_int_int.f k t177 y167).bind fun t181 => (if t181 = true then ((keys_Key.f k a0 y167).bind fun t182 => ((keys_Key.f k a0 y170).bind fun t185 => ((bytes_Compare.f t182 t185).bind fun t188 => ((slices_Compare_int_int.f k y167 y170).bind fun t189 => (if t188 = t189 then ((exchequerlaw18_awake.f k).bind fun t190 => (some t190)) else (some false)))))) else (some false))) else (some false)) = some r := by rw [if_pos rfl] at H; exact H
    clear H
    have H := H1
    clear H1
    by_cases c7 : t176 = a0
    · rw [if_pos c7] at H
      have c7b0 : (t176 == a0) = true := beq_iff_eq.mpr c7
      have c7b1 : (t176 != a0) = false := bne_eq_false_iff_eq.mpr c7
      clear c7
      replace H := Option.bind_eq_some_iff.mp H
      obtain ⟨t181, A80, H⟩ := H
      replace H : (if t181 = true then ((keys_Key.f k a0 y167).bind fun t182 => ((keys_Key.f k a0 y170).bind fun t185 => ((bytes_Compare.f t182 t185).bind fun t188 => ((slices_Compare_int_int.f k y167 y170).bind fun t189 => (if t188 = t189 then ((exchequerlaw18_awake.f k).bind fun t190 => (some t190)) else (some false)))))) else (some false)) = some r := H
      have A8 := Aside0.mk A80
      clear A80
      by_cases c9 : t181 = true
      · subst c9
        have H1 : ((keys_Key.f k a0 y167).bind fun t182 => ((keys_Key.f k a0 y170).bind fun t185 => ((bytes_Compare.f t182 t185).bind fun t188 => ((slices_Compare_int_int.f k y167 y170).bind fun t189 => (if t188 = t189 then ((exchequerlaw18_awake.f k).bind fun t190 => (some t190)) else (some false)))))) = some r := by rw [if_pos rfl] at H; exact H
        clear H
        have H := H1
        clear H1
        replace H := Option.bind_eq_some_iff.mp H
        obtain ⟨t182, A100, H⟩ := H
        replace H : ((keys_Key.f k a0 y170).bind fun t185 => ((bytes_Compare.f t182 t185).bind fun t188 => ((slices_Compare_int_int.f k y167 y170).bind fun t189 => (if t188 = t189 then ((exchequerlaw18_awake.f k).bind fun t190 => (some t190)) else (some false))))) = some r := H
        have A10 := Aside0.mk A100
        clear A100
        replace H := Option.bind_eq_some_iff.mp H
        obtain ⟨t185, A110, H⟩ := H
        replace H : ((bytes_Compare.f t182 t185).bind fun t188 => ((slices_Compare_int_int.f k y167 y170).bind fun t189 => (if t188 = t189 then ((exchequerlaw18_awake.f k).bind fun t190 => (some t190)) else (some false)))) = some r := H
        have A11 := Aside0.mk A110
        clear A110
        replace H := Option.bind_eq_some_iff.mp H
        obtain ⟨t188, A120, H⟩ := H
        replace H : ((slices_Compare_int_int.f k y167 y170).bind fun t189 => (if t188 = t189 then ((exchequerlaw18_awake.f k).bind fun t190 => (some t190)) else (some false))) = some r := H
        have A12 := Aside0.mk A120
        clear A120
        replace H := Option.bind_eq_some_iff.mp H
        obtain ⟨t189, A130, H⟩ := H
        replace H : (if t188 = t189 then ((exchequerlaw18_awake.f k).bind fun t190 => (some t190)) else (some false)) = some r := H
        have A13 := Aside0.mk A130
        clear A130
        by_cases c14 : t188 = t189
        · rw [if_pos c14] at H
          have c14b0 : (t188 == t189) = true := beq_iff_eq.mpr c14
          have c14b1 : (t188 != t189) = false := bne_eq_false_iff_eq.mpr c14
          clear c14
          replace H := Option.bind_eq_some_iff.mp H
          obtain ⟨t190, A150, H⟩ := H
          replace H : (some t190) = some r := H
          have A15 := Aside0.mk A150
          clear A150
          obtain rfl := Option.some.inj H
          go_enter Try.func3, Try.ntmps3
          try go_wp2_with (first | ((with_reducible refine gate_dst (N := 4) rfl ?_); refine box_event ?hg (N := 4) ?hd (cs := #[.int .u32 a1_0, .int .u32 a1_1, .int .u32 a1_2]) (t := 23) ?hr ?_; (case hd => rfl); (case hg => rfl); (case hr => first | (go_simp; done) | (go_simp; rfl)); intro gb165 hg w16 hbox hb; have n0_ := Aside0.mk (below_step (by repeat (first | (with_reducible first | exact HB.out | apply below_alloc | apply pw_below_drewN | apply below_drew1) | exact HB.out)) hb); have n1_ := Aside0.mk (hbox); have n2_ := Aside0.mk ((by rw [hg]; exact (below_size (by repeat (first | (with_reducible first | exact HB.out | apply below_alloc | apply pw_below_drewN | apply below_drew1) | exact HB.out))) : w.heap.size ≤ gb165)); have n3_ := Aside0.mk ((by rw [hg]; exact (below_size (by repeat (first | (with_reducible first | exact HB.out | apply below_alloc | apply pw_below_drewN | apply below_drew1) | exact HB.out))) : w.heap.size ≤ gb165)); clear HB; have HB := n0_; have BK165 := n1_; have GW165 := n2_; have GE165 := n3_; clear n0_ n1_ n2_ n3_; clear hb hbox hg) | ((with_reducible refine gate_dst (N := 5) rfl ?_); refine box_event ?hg (N := 5) ?hd (cs := #[.int .u32 a2_0, .int .u32 a2_1, .int .u32 a2_2]) (t := 23) ?hr ?_; (case hd => rfl); (case hg => rfl); (case hr => first | (go_simp; done) | (go_simp; rfl)); intro gb166 hg w17 hbox hb; have n0_ := Aside0.mk (blk_below (g := gb165) (o := .cells #[.int .u32 a1_0, .int .u32 a1_1, .int .u32 a1_2] 23 (0, 0)) (by (with_reducible repeat (first | refine blk_drewN ?_ _ | refine blk_drew ?_ | refine blk_alloc ?_ _)); exact BK165.out) hb); have n1_ := Aside0.mk (below_step (by repeat (first | (with_reducible first | exact HB.out | apply below_alloc | apply pw_below_drewN | apply below_drew1 | refine below_set ?_ GE165.out) | exact HB.out)) hb); have n2_ := Aside0.mk (hbox); have n3_ := Aside0.mk ((by rw [hg]; exact (below_size (by repeat (first | (with_reducible first | exact HB.out | apply below_alloc | apply pw_below_drewN | apply below_drew1 | refine below_set ?_ GE165.out) | exact HB.out))) : w.heap.size ≤ gb166)); have n4_ := Aside0.mk ((by rw [hg]; exact (below_size (by repeat (first | (with_reducible first | exact HB.out | apply below_alloc | apply pw_below_drewN | apply below_drew1 | refine below_set ?_ GE165.out) | exact HB.out))) : w.heap.size ≤ gb166)); have n5_ := Aside0.mk ((by rw [hg]; exact Nat.ne_of_lt (blk_lt (g := gb165) (o := .cells #[.int .u32 a1_0, .int .u32 a1_1, .int .u32 a1_2] 23 (0, 0)) (by (with_reducible repeat (first | refine blk_drewN ?_ _ | refine blk_drew ?_ | refine blk_alloc ?_ _)); exact BK165.out)) : gb165 ≠ gb166)); have n6_ := Aside0.mk ((by rw [hg]; exact Nat.ne_of_gt (blk_lt (g := gb165) (o := .cells #[.int .u32 a1_0, .int .u32 a1_1, .int .u32 a1_2] 23 (0, 0)) (by (with_reducible repeat (first | refine blk_drewN ?_ _ | refine blk_drew ?_ | refine blk_alloc ?_ _)); exact BK165.out)) : gb166 ≠ gb165)); clear BK165; clear HB; have BK165 := n0_; have HB := n1_; have BK166 := n2_; have GW166 := n3_; have GE166 := n4_; have NB165_166 := n5_; have NB166_165 := n6_; clear n0_ n1_ n2_ n3_ n4_ n5_ n6_; clear hb hbox hg))
          have n0_ := Aside0.mk (blk_drew BK165.out)
          have n1_ := Aside0.mk (blk_drew BK166.out)
          have n2_ := Aside0.mk (below_drew1 HB.out)
          clear BK165
          clear BK166
          clear HB
          have BK165 := n0_
          have BK166 := n1_
          have HB := n2_
          clear n0_ n1_ n2_
          refine start_ (n := 22) (S := fun w' => True) (ds := []) #[false, false, false, false, false, false, false, false, false, false, false, false, false, false, false, false, false, false, false, false, false, false] (by kernel_rfl) rfl rfl trivial (fun hHeld => ?_); refine with_tabW exchequerlaw18_KeysOrder.tab1 exchequerlaw18_KeysOrder.bits1 (fun HT_ HW_ => ?_)
          generalize w17.drew = w18 at BK165 BK166 HB hHeld ⊢
          refine pure_ (i := 0) (N := some 12) (v := ?_) (a' := ?_) #[true, false, false, false, false, false, false, false, false, false, false, false, false, false, false, false, false, false, false, false, false, false] rfl rfl (any_of HT_.out (by kernel_rfl)) (fun _ _ _ h => h) (Or.inl ⟨by rfl, ?_⟩) ?_ ?_
          rotate_left
          · intro w'
            go_simp
            with_reducible rfl
          rotate_left
          · simp only [Act.put, List.setIfInBounds_toArray, List.set_cons_zero, List.set_cons_succ, i64_w, i32_w]
            rfl
          refine pure_ (i := 3) (N := some 15) (v := ?_) (a' := ?_) #[true, false, false, true, false, false, false, false, false, false, false, false, false, false, false, false, false, false, false, false, false, false] rfl rfl (any_of HT_.out (by kernel_rfl)) (fun _ _ _ h => h) (Or.inl ⟨by rfl, ?_⟩) ?_ ?_
          rotate_left
          · intro w'
            go_simp
            with_reducible rfl
          rotate_left
          · simp only [Act.put, List.setIfInBounds_toArray, List.set_cons_zero, List.set_cons_succ, i64_w, i32_w]
            rfl
          refine pure_ (i := 6) (N := some 18) (v := ?_) (a' := ?_) #[true, false, false, true, false, false, true, false, false, false, false, false, false, false, false, false, false, false, false, false, false, false] rfl rfl (any_of HT_.out (by kernel_rfl)) (fun _ _ _ h => h) (Or.inl ⟨by rfl, ?_⟩) ?_ ?_
          rotate_left
          · intro w'
            go_simp
            with_reducible rfl
          rotate_left
          · simp only [Act.put, List.setIfInBounds_toArray, List.set_cons_zero, List.set_cons_succ, i64_w, i32_w]
            rfl
          refine pure_ (i := 10) (N := some 22) (v := ?_) (a' := ?_) #[true, false, false, true, false, false, true, false, false, false, true, false, false, false, false, false, false, false, false, false, false, false] rfl rfl (any_of HT_.out (by kernel_rfl)) (fun _ _ _ h => h) (Or.inl ⟨by rfl, ?_⟩) ?_ ?_
          rotate_left
          · intro w'
            go_simp
            with_reducible rfl
          rotate_left
          · simp only [Act.put, List.setIfInBounds_toArray, List.set_cons_zero, List.set_cons_succ, i64_w, i32_w]
            rfl
          refine pure_ (i := 13) (N := some 25) (v := ?_) (a' := ?_) #[true, false, false, true, false, false, true, false, false, false, true, false, false, true, false, false, false, false, false, false, false, false] rfl rfl (any_of HT_.out (by kernel_rfl)) (fun _ _ _ h => h) (Or.inl ⟨by rfl, ?_⟩) ?_ ?_
          rotate_left
          · intro w'
            go_simp
            with_reducible rfl
          rotate_left
          · simp only [Act.put, List.setIfInBounds_toArray, List.set_cons_zero, List.set_cons_succ, i64_w, i32_w]
            rfl
          refine pure_ (i := 16) (N := some 28) (v := ?_) (a' := ?_) #[true, false, false, true, false, false, true, false, false, false, true, false, false, true, false, false, true, false, false, false, false, false] rfl rfl (any_of HT_.out (by kernel_rfl)) (fun _ _ _ h => h) (Or.inl ⟨by rfl, ?_⟩) ?_ ?_
          rotate_left
          · intro w'
            go_simp
            with_reducible rfl
          rotate_left
          · simp only [Act.put, List.setIfInBounds_toArray, List.set_cons_zero, List.set_cons_succ, i64_w, i32_w]
            rfl
          refine inv_at [1, 2, 4, 5, 7, 8, 9, 11, 12, 14, 15, 17, 18, 19, 20, 21] (fun a0_ b a w' => ∃ (v168 : Value) (v171 : Value) (m20_ : Value) (m21_ : Value), a = putSel a0_ b [(1, 13, .int .u32 a1_0), (2, 14, .int .i64 (wrap64 (a1_0))), (4, 16, .int .u32 a1_1), (5, 17, .int .i64 (wrap64 (a1_1))), (7, 19, .int .u32 a1_2), (8, 20, .int .i64 (wrap64 (a1_2))), (9, 21, v168), (11, 23, .int .u32 a2_0), (12, 24, .int .i64 (wrap64 (a2_0))), (14, 26, .int .u32 a2_1), (15, 27, .int .i64 (wrap64 (a2_1))), (17, 29, .int .u32 a2_2), (18, 30, .int .i64 (wrap64 (a2_2))), (19, 31, v171), (20, 7, m20_), (21, 8, m21_)] ∧ (w'.heap[gb165]? = some (.cells #[.int .u32 a1_0, .int .u32 a1_1, .int .u32 a1_2] 23 (0, 0))) ∧ (w'.heap[gb166]? = some (.cells #[.int .u32 a2_0, .int .u32 a2_1, .int .u32 a2_2] 23 (0, 0))) ∧ (Below w.heap.size w w') ∧ (b 9 = true → Kd.R (Kd.int .i64) 3 w' w.heap.size (fun _ => True) v168 y167) ∧ (b 19 = true → Kd.R (Kd.int .i64) 3 w' w.heap.size (fun _ => True) v171 y170) ∧ (b 20 = true → (m20_ : Value) = v168) ∧ (b 21 = true → (m21_ : Value) = v171)) HT_.out HW_.out (by kernel_rfl) (by kernel_rfl) ?_ ?_ ?_
          · exact ⟨.bool false, .bool false, .bool false, .bool false, by simp only [putSel, Bool.false_eq_true, if_false], BK165.out, BK166.out, HB.out, fun h_ => absurd h_ (by decide), fun h_ => absurd h_ (by decide), fun h_ => absurd h_ (by decide), fun h_ => absurd h_ (by decide)⟩
          · skip
            clear BK165 BK166 HB
            refine steps_cons ?_ ?_
            · rintro b a w' ⟨v168, v171, m20_, m21_, ha, Q_BK165, Q_BK166, Q_HB, Q_HO169, Q_HO172, Q_X20_, Q_X21_⟩ hb_ hon hoff
              refine ⟨_, rfl, fun K hK => ?_⟩
              have e12 : a.tmps[12]? = some (.pointer (some ⟨gb165, 0, none⟩)) := by rw [ha]; exact (putSel_off rfl).trans rfl
              replace ha := Aside0.mk ha
              have BK165 := Aside0.mk Q_BK165
              have BK166 := Aside0.mk Q_BK166
              have HB := Aside0.mk Q_HB
              have hc0_ : w'.cell? ⟨gb165, 0, none⟩ = some (.int .u32 a1_0) := (blk_cell BK165.out 0).trans rfl
              have hc1_ : w'.cell? ⟨gb165, 1, none⟩ = some (.int .u32 a1_1) := (blk_cell BK165.out 1).trans rfl
              have hc2_ : w'.cell? ⟨gb165, 2, none⟩ = some (.int .u32 a1_2) := (blk_cell BK165.out 2).trans rfl
              refine value_ (w1 := w') (v := .int .u32 a1_0) (by rfl) rfl ?_ ?_
              · go_simp
                (try simp only [i64_w])
                try rfl
              refine hK.out _ _ ⟨v168, v171, m20_, m21_, (by rw [ha.out]; exact putSel_upk 0 hb_ rfl rfl rfl), Q_BK165, Q_BK166, Q_HB, fun h0_ => absurd ((hoff 9 (by kernel_rfl)).symm.trans h0_) (by decide), Q_HO172, fun h0_ => absurd ((hoff 20 (by kernel_rfl)).symm.trans h0_) (by decide), fun h0_ => absurd ((hoff 21 (by kernel_rfl)).symm.trans h0_) (by decide)⟩
            refine steps_cons ?_ ?_
            · rintro b a w' ⟨v168, v171, m20_, m21_, ha, Q_BK165, Q_BK166, Q_HB, Q_HO169, Q_HO172, Q_X20_, Q_X21_⟩ hb_ hon hoff
              refine ⟨_, rfl, fun K hK => ?_⟩
              have e13 : a.tmps[13]? = some (.int .u32 a1_0) := by rw [ha]; exact putSel_on (e := (1, 13, .int .u32 a1_0)) 0 rfl rfl (hon 1 (by kernel_rfl)) rfl
              replace ha := Aside0.mk ha
              have BK165 := Aside0.mk Q_BK165
              have BK166 := Aside0.mk Q_BK166
              have HB := Aside0.mk Q_HB
              refine value_ (w1 := w') (v := .int .i64 (wrap64 (a1_0))) (by rfl) rfl ?_ ?_
              · go_simp
                (try simp only [i64_w])
                try rfl
              refine hK.out _ _ ⟨v168, v171, m20_, m21_, (by rw [ha.out]; exact putSel_upk 1 hb_ rfl rfl rfl), Q_BK165, Q_BK166, Q_HB, fun h0_ => absurd ((hoff 9 (by kernel_rfl)).symm.trans h0_) (by decide), Q_HO172, fun h0_ => absurd ((hoff 20 (by kernel_rfl)).symm.trans h0_) (by decide), fun h0_ => absurd ((hoff 21 (by kernel_rfl)).symm.trans h0_) (by decide)⟩
            refine steps_cons ?_ ?_
            · rintro b a w' ⟨v168, v171, m20_, m21_, ha, Q_BK165, Q_BK166, Q_HB, Q_HO169, Q_HO172, Q_X20_, Q_X21_⟩ hb_ hon hoff
              refine ⟨_, rfl, fun K hK => ?_⟩
              have e15 : a.tmps[15]? = some (.pointer (some ⟨gb165, 1, none⟩)) := by rw [ha]; exact (putSel_off rfl).trans rfl
              replace ha := Aside0.mk ha
              have BK165 := Aside0.mk Q_BK165
              have BK166 := Aside0.mk Q_BK166
              have HB := Aside0.mk Q_HB
              have hc0_ : w'.cell? ⟨gb165, 0, none⟩ = some (.int .u32 a1_0) := (blk_cell BK165.out 0).trans rfl
              have hc1_ : w'.cell? ⟨gb165, 1, none⟩ = some (.int .u32 a1_1) := (blk_cell BK165.out 1).trans rfl
              have hc2_ : w'.cell? ⟨gb165, 2, none⟩ = some (.int .u32 a1_2) := (blk_cell BK165.out 2).trans rfl
              refine value_ (w1 := w') (v := .int .u32 a1_1) (by rfl) rfl ?_ ?_
              · go_simp
                (try simp only [i64_w])
                try rfl
              refine hK.out _ _ ⟨v168, v171, m20_, m21_, (by rw [ha.out]; exact putSel_upk 2 hb_ rfl rfl rfl), Q_BK165, Q_BK166, Q_HB, fun h0_ => absurd ((hoff 9 (by kernel_rfl)).symm.trans h0_) (by decide), Q_HO172, fun h0_ => absurd ((hoff 20 (by kernel_rfl)).symm.trans h0_) (by decide), fun h0_ => absurd ((hoff 21 (by kernel_rfl)).symm.trans h0_) (by decide)⟩
            refine steps_cons ?_ ?_
            · rintro b a w' ⟨v168, v171, m20_, m21_, ha, Q_BK165, Q_BK166, Q_HB, Q_HO169, Q_HO172, Q_X20_, Q_X21_⟩ hb_ hon hoff
              refine ⟨_, rfl, fun K hK => ?_⟩
              have e16 : a.tmps[16]? = some (.int .u32 a1_1) := by rw [ha]; exact putSel_on (e := (4, 16, .int .u32 a1_1)) 2 rfl rfl (hon 4 (by kernel_rfl)) rfl
              replace ha := Aside0.mk ha
              have BK165 := Aside0.mk Q_BK165
              have BK166 := Aside0.mk Q_BK166
              have HB := Aside0.mk Q_HB
              refine value_ (w1 := w') (v := .int .i64 (wrap64 (a1_1))) (by rfl) rfl ?_ ?_
              · go_simp
                (try simp only [i64_w])
                try rfl
              refine hK.out _ _ ⟨v168, v171, m20_, m21_, (by rw [ha.out]; exact putSel_upk 3 hb_ rfl rfl rfl), Q_BK165, Q_BK166, Q_HB, fun h0_ => absurd ((hoff 9 (by kernel_rfl)).symm.trans h0_) (by decide), Q_HO172, fun h0_ => absurd ((hoff 20 (by kernel_rfl)).symm.trans h0_) (by decide), fun h0_ => absurd ((hoff 21 (by kernel_rfl)).symm.trans h0_) (by decide)⟩
            refine steps_cons ?_ ?_
            · rintro b a w' ⟨v168, v171, m20_, m21_, ha, Q_BK165, Q_BK166, Q_HB, Q_HO169, Q_HO172, Q_X20_, Q_X21_⟩ hb_ hon hoff
              refine ⟨_, rfl, fun K hK => ?_⟩
              have e18 : a.tmps[18]? = some (.pointer (some ⟨gb165, 2, none⟩)) := by rw [ha]; exact (putSel_off rfl).trans rfl
              replace ha := Aside0.mk ha
              have BK165 := Aside0.mk Q_BK165
              have BK166 := Aside0.mk Q_BK166
              have HB := Aside0.mk Q_HB
              have hc0_ : w'.cell? ⟨gb165, 0, none⟩ = some (.int .u32 a1_0) := (blk_cell BK165.out 0).trans rfl
              have hc1_ : w'.cell? ⟨gb165, 1, none⟩ = some (.int .u32 a1_1) := (blk_cell BK165.out 1).trans rfl
              have hc2_ : w'.cell? ⟨gb165, 2, none⟩ = some (.int .u32 a1_2) := (blk_cell BK165.out 2).trans rfl
              refine value_ (w1 := w') (v := .int .u32 a1_2) (by rfl) rfl ?_ ?_
              · go_simp
                (try simp only [i64_w])
                try rfl
              refine hK.out _ _ ⟨v168, v171, m20_, m21_, (by rw [ha.out]; exact putSel_upk 4 hb_ rfl rfl rfl), Q_BK165, Q_BK166, Q_HB, fun h0_ => absurd ((hoff 9 (by kernel_rfl)).symm.trans h0_) (by decide), Q_HO172, fun h0_ => absurd ((hoff 20 (by kernel_rfl)).symm.trans h0_) (by decide), fun h0_ => absurd ((hoff 21 (by kernel_rfl)).symm.trans h0_) (by decide)⟩
            refine steps_cons ?_ ?_
            · rintro b a w' ⟨v168, v171, m20_, m21_, ha, Q_BK165, Q_BK166, Q_HB, Q_HO169, Q_HO172, Q_X20_, Q_X21_⟩ hb_ hon hoff
              refine ⟨_, rfl, fun K hK => ?_⟩
              have e19 : a.tmps[19]? = some (.int .u32 a1_2) := by rw [ha]; exact putSel_on (e := (7, 19, .int .u32 a1_2)) 4 rfl rfl (hon 7 (by kernel_rfl)) rfl
              replace ha := Aside0.mk ha
              have BK165 := Aside0.mk Q_BK165
              have BK166 := Aside0.mk Q_BK166
              have HB := Aside0.mk Q_HB
              refine value_ (w1 := w') (v := .int .i64 (wrap64 (a1_2))) (by rfl) rfl ?_ ?_
              · go_simp
                (try simp only [i64_w])
                try rfl
              refine hK.out _ _ ⟨v168, v171, m20_, m21_, (by rw [ha.out]; exact putSel_upk 5 hb_ rfl rfl rfl), Q_BK165, Q_BK166, Q_HB, fun h0_ => absurd ((hoff 9 (by kernel_rfl)).symm.trans h0_) (by decide), Q_HO172, fun h0_ => absurd ((hoff 20 (by kernel_rfl)).symm.trans h0_) (by decide), fun h0_ => absurd ((hoff 21 (by kernel_rfl)).symm.trans h0_) (by decide)⟩
            refine steps_cons ?_ ?_
            · rintro b a w' ⟨v168, v171, m20_, m21_, ha, Q_BK165, Q_BK166, Q_HB, Q_HO169, Q_HO172, Q_X20_, Q_X21_⟩ hb_ hon hoff
              refine ⟨_, rfl, fun K hK => ?_⟩
              have e14 : a.tmps[14]? = some (.int .i64 (wrap64 (a1_0))) := by rw [ha]; exact putSel_on (e := (2, 14, .int .i64 (wrap64 (a1_0)))) 1 rfl rfl (hon 2 (by kernel_rfl)) rfl
              have e17 : a.tmps[17]? = some (.int .i64 (wrap64 (a1_1))) := by rw [ha]; exact putSel_on (e := (5, 17, .int .i64 (wrap64 (a1_1)))) 3 rfl rfl (hon 5 (by kernel_rfl)) rfl
              have e20 : a.tmps[20]? = some (.int .i64 (wrap64 (a1_2))) := by rw [ha]; exact putSel_on (e := (8, 20, .int .i64 (wrap64 (a1_2)))) 5 rfl rfl (hon 8 (by kernel_rfl)) rfl
              replace ha := Aside0.mk ha
              have BK165 := Aside0.mk Q_BK165
              have BK166 := Aside0.mk Q_BK166
              have HB := Aside0.mk Q_HB
              refine Kd.R_lit_step (Kd.int .i64) _ 3 ?hg (N := 21) ?hd (xs := ([wrap64 (a1_0), wrap64 (a1_1), wrap64 (a1_2)] : List Int)) (inner := [.int .i64 (wrap64 (a1_0)), .int .i64 (wrap64 (a1_1)), .int .i64 (wrap64 (a1_2))]) (ok := fun _ => True) (okp := fun _ => True) ?hr ?hp (fun _ hk => hk) trivial (Below.refl _ _) (Nat.le_refl _) (by simp) ?_; (case hd => rfl); (case hg => rfl); (case hr => first | (go_simp; done) | (go_simp; rfl)); (case hp => exact (Reps.one (show Kd.M (Kd.int .i64) _ _ _ (wrap64 (a1_0)) [.int .i64 (wrap64 (a1_0))] from rfl) (Reps.one (show Kd.M (Kd.int .i64) _ _ _ (wrap64 (a1_1)) [.int .i64 (wrap64 (a1_1))] from rfl) (Reps.one (show Kd.M (Kd.int .i64) _ _ _ (wrap64 (a1_2)) [.int .i64 (wrap64 (a1_2))] from rfl) (Reps.none _ _)))))
              intro v168 w19 ho20 hb hg_ hnew_
              clear hg_ hnew_
              (first | rw [← Ny167.out] at ho20 | (simp only [Int.reduceToNat] at ho20; rw [← Ny167.out] at ho20))
              have n0_ := Aside0.mk (Kd.R_lower ho20 (below_size (by repeat (first | (with_reducible first | exact HB.out | apply below_alloc | apply pw_below_drewN | apply below_drew1 | refine below_set ?_ GE165.out | refine below_set ?_ GE166.out) | exact HB.out))))
              have n1_ := Aside0.mk (blk_below (g := gb165) (o := .cells #[.int .u32 a1_0, .int .u32 a1_1, .int .u32 a1_2] 23 (0, 0)) (by (with_reducible repeat (first | refine blk_drewN ?_ _ | refine blk_drew ?_ | refine blk_alloc ?_ _)); exact BK165.out) hb)
              have n2_ := Aside0.mk (blk_below (g := gb166) (o := .cells #[.int .u32 a2_0, .int .u32 a2_1, .int .u32 a2_2] 23 (0, 0)) (by (with_reducible repeat (first | refine blk_drewN ?_ _ | refine blk_drew ?_ | refine blk_alloc ?_ _)); exact BK166.out) hb)
              have n3_ := Aside0.mk (below_step (by repeat (first | (with_reducible first | exact HB.out | apply below_alloc | apply pw_below_drewN | apply below_drew1 | refine below_set ?_ GE165.out | refine below_set ?_ GE166.out) | exact HB.out)) hb)
              have z_HO172 := fun (h0_ : b 19 = true) => (show Kd.R (Kd.int .i64) 3 w19 w.heap.size (fun _ => True) v171 y170 from by first | exact (Kd.R_elder' (by (with_reducible repeat (first | apply Kd.R_alloc | apply Kd.R_drewN | apply Kd.R_drew)); exact (Q_HO172 h0_)) (Kd.R_base ho20) hb) | exact Kd.R_mono (Kd.R_elder' (by (with_reducible repeat (first | apply Kd.R_alloc | apply Kd.R_drewN | apply Kd.R_drew)); exact (Q_HO172 h0_)) (Kd.R_base ho20) hb) (fun _ h_ => by first | trivial | exact h_ | exact h_.1))
              clear BK165
              clear BK166
              clear HB
              have HO169 := n0_
              have BK165 := n1_
              have BK166 := n2_
              have HB := n3_
              clear n0_ n1_ n2_ n3_
              clear hb ho20
              refine hK.out _ _ ⟨v168, v171, m20_, m21_, (by rw [ha.out]; exact putSel_upk 6 hb_ rfl rfl rfl), (by (with_reducible repeat (first | refine blk_drewN ?_ _ | refine blk_drew ?_ | refine blk_alloc ?_ _)); exact BK165.out), (by (with_reducible repeat (first | refine blk_drewN ?_ _ | refine blk_drew ?_ | refine blk_alloc ?_ _)); exact BK166.out), (by repeat (first | (with_reducible first | exact HB.out | apply below_alloc | apply pw_below_drewN | apply below_drew1 | refine below_set ?_ GE165.out | refine below_set ?_ GE166.out) | exact HB.out)), fun _ => (by (with_reducible repeat (first | apply Kd.R_alloc | apply Kd.R_drewN | apply Kd.R_drew)); exact HO169.out), z_HO172, fun h0_ => absurd ((hoff 20 (by kernel_rfl)).symm.trans h0_) (by decide), fun h0_ => absurd ((hoff 21 (by kernel_rfl)).symm.trans h0_) (by decide)⟩
            refine steps_cons ?_ ?_
            · rintro b a w' ⟨v168, v171, m20_, m21_, ha, Q_BK165, Q_BK166, Q_HB, Q_HO169, Q_HO172, Q_X20_, Q_X21_⟩ hb_ hon hoff
              refine ⟨_, rfl, fun K hK => ?_⟩
              have e22 : a.tmps[22]? = some (.pointer (some ⟨gb166, 0, none⟩)) := by rw [ha]; exact (putSel_off rfl).trans rfl
              replace ha := Aside0.mk ha
              have BK165 := Aside0.mk Q_BK165
              have BK166 := Aside0.mk Q_BK166
              have HB := Aside0.mk Q_HB
              have hc0_ : w'.cell? ⟨gb166, 0, none⟩ = some (.int .u32 a2_0) := (blk_cell BK166.out 0).trans rfl
              have hc1_ : w'.cell? ⟨gb166, 1, none⟩ = some (.int .u32 a2_1) := (blk_cell BK166.out 1).trans rfl
              have hc2_ : w'.cell? ⟨gb166, 2, none⟩ = some (.int .u32 a2_2) := (blk_cell BK166.out 2).trans rfl
              refine value_ (w1 := w') (v := .int .u32 a2_0) (by rfl) rfl ?_ ?_
              · go_simp
                (try simp only [i64_w])
                try rfl
              refine hK.out _ _ ⟨v168, v171, m20_, m21_, (by rw [ha.out]; exact putSel_upk 7 hb_ rfl rfl rfl), Q_BK165, Q_BK166, Q_HB, Q_HO169, fun h0_ => absurd ((hoff 19 (by kernel_rfl)).symm.trans h0_) (by decide), Q_X20_, fun h0_ => absurd ((hoff 21 (by kernel_rfl)).symm.trans h0_) (by decide)⟩
            refine steps_cons ?_ ?_
            · rintro b a w' ⟨v168, v171, m20_, m21_, ha, Q_BK165, Q_BK166, Q_HB, Q_HO169, Q_HO172, Q_X20_, Q_X21_⟩ hb_ hon hoff
              refine ⟨_, rfl, fun K hK => ?_⟩
              have e23 : a.tmps[23]? = some (.int .u32 a2_0) := by rw [ha]; exact putSel_on (e := (11, 23, .int .u32 a2_0)) 7 rfl rfl (hon 11 (by kernel_rfl)) rfl
              replace ha := Aside0.mk ha
              have BK165 := Aside0.mk Q_BK165
              have BK166 := Aside0.mk Q_BK166
              have HB := Aside0.mk Q_HB
              refine value_ (w1 := w') (v := .int .i64 (wrap64 (a2_0))) (by rfl) rfl ?_ ?_
              · go_simp
                (try simp only [i64_w])
                try rfl
              refine hK.out _ _ ⟨v168, v171, m20_, m21_, (by rw [ha.out]; exact putSel_upk 8 hb_ rfl rfl rfl), Q_BK165, Q_BK166, Q_HB, Q_HO169, fun h0_ => absurd ((hoff 19 (by kernel_rfl)).symm.trans h0_) (by decide), Q_X20_, fun h0_ => absurd ((hoff 21 (by kernel_rfl)).symm.trans h0_) (by decide)⟩
            refine steps_cons ?_ ?_
            · rintro b a w' ⟨v168, v171, m20_, m21_, ha, Q_BK165, Q_BK166, Q_HB, Q_HO169, Q_HO172, Q_X20_, Q_X21_⟩ hb_ hon hoff
              refine ⟨_, rfl, fun K hK => ?_⟩
              have e25 : a.tmps[25]? = some (.pointer (some ⟨gb166, 1, none⟩)) := by rw [ha]; exact (putSel_off rfl).trans rfl
              replace ha := Aside0.mk ha
              have BK165 := Aside0.mk Q_BK165
              have BK166 := Aside0.mk Q_BK166
              have HB := Aside0.mk Q_HB
              have hc0_ : w'.cell? ⟨gb166, 0, none⟩ = some (.int .u32 a2_0) := (blk_cell BK166.out 0).trans rfl
              have hc1_ : w'.cell? ⟨gb166, 1, none⟩ = some (.int .u32 a2_1) := (blk_cell BK166.out 1).trans rfl
              have hc2_ : w'.cell? ⟨gb166, 2, none⟩ = some (.int .u32 a2_2) := (blk_cell BK166.out 2).trans rfl
              refine value_ (w1 := w') (v := .int .u32 a2_1) (by rfl) rfl ?_ ?_
              · go_simp
                (try simp only [i64_w])
                try rfl
              refine hK.out _ _ ⟨v168, v171, m20_, m21_, (by rw [ha.out]; exact putSel_upk 9 hb_ rfl rfl rfl), Q_BK165, Q_BK166, Q_HB, Q_HO169, fun h0_ => absurd ((hoff 19 (by kernel_rfl)).symm.trans h0_) (by decide), Q_X20_, fun h0_ => absurd ((hoff 21 (by kernel_rfl)).symm.trans h0_) (by decide)⟩
            refine steps_cons ?_ ?_
            · rintro b a w' ⟨v168, v171, m20_, m21_, ha, Q_BK165, Q_BK166, Q_HB, Q_HO169, Q_HO172, Q_X20_, Q_X21_⟩ hb_ hon hoff
              refine ⟨_, rfl, fun K hK => ?_⟩
              have e26 : a.tmps[26]? = some (.int .u32 a2_1) := by rw [ha]; exact putSel_on (e := (14, 26, .int .u32 a2_1)) 9 rfl rfl (hon 14 (by kernel_rfl)) rfl
              replace ha := Aside0.mk ha
              have BK165 := Aside0.mk Q_BK165
              have BK166 := Aside0.mk Q_BK166
              have HB := Aside0.mk Q_HB
              refine value_ (w1 := w') (v := .int .i64 (wrap64 (a2_1))) (by rfl) rfl ?_ ?_
              · go_simp
                (try simp only [i64_w])
                try rfl
              refine hK.out _ _ ⟨v168, v171, m20_, m21_, (by rw [ha.out]; exact putSel_upk 10 hb_ rfl rfl rfl), Q_BK165, Q_BK166, Q_HB, Q_HO169, fun h0_ => absurd ((hoff 19 (by kernel_rfl)).symm.trans h0_) (by decide), Q_X20_, fun h0_ => absurd ((hoff 21 (by kernel_rfl)).symm.trans h0_) (by decide)⟩
            refine steps_cons ?_ ?_
            · rintro b a w' ⟨v168, v171, m20_, m21_, ha, Q_BK165, Q_BK166, Q_HB, Q_HO169, Q_HO172, Q_X20_, Q_X21_⟩ hb_ hon hoff
              refine ⟨_, rfl, fun K hK => ?_⟩
              have e28 : a.tmps[28]? = some (.pointer (some ⟨gb166, 2, none⟩)) := by rw [ha]; exact (putSel_off rfl).trans rfl
              replace ha := Aside0.mk ha
              have BK165 := Aside0.mk Q_BK165
              have BK166 := Aside0.mk Q_BK166
              have HB := Aside0.mk Q_HB
              have hc0_ : w'.cell? ⟨gb166, 0, none⟩ = some (.int .u32 a2_0) := (blk_cell BK166.out 0).trans rfl
              have hc1_ : w'.cell? ⟨gb166, 1, none⟩ = some (.int .u32 a2_1) := (blk_cell BK166.out 1).trans rfl
              have hc2_ : w'.cell? ⟨gb166, 2, none⟩ = some (.int .u32 a2_2) := (blk_cell BK166.out 2).trans rfl
              refine value_ (w1 := w') (v := .int .u32 a2_2) (by rfl) rfl ?_ ?_
              · go_simp
                (try simp only [i64_w])
                try rfl
              refine hK.out _ _ ⟨v168, v171, m20_, m21_, (by rw [ha.out]; exact putSel_upk 11 hb_ rfl rfl rfl), Q_BK165, Q_BK166, Q_HB, Q_HO169, fun h0_ => absurd ((hoff 19 (by kernel_rfl)).symm.trans h0_) (by decide), Q_X20_, fun h0_ => absurd ((hoff 21 (by kernel_rfl)).symm.trans h0_) (by decide)⟩
            refine steps_cons ?_ ?_
            · rintro b a w' ⟨v168, v171, m20_, m21_, ha, Q_BK165, Q_BK166, Q_HB, Q_HO169, Q_HO172, Q_X20_, Q_X21_⟩ hb_ hon hoff
              refine ⟨_, rfl, fun K hK => ?_⟩
              have e29 : a.tmps[29]? = some (.int .u32 a2_2) := by rw [ha]; exact putSel_on (e := (17, 29, .int .u32 a2_2)) 11 rfl rfl (hon 17 (by kernel_rfl)) rfl
              replace ha := Aside0.mk ha
              have BK165 := Aside0.mk Q_BK165
              have BK166 := Aside0.mk Q_BK166
              have HB := Aside0.mk Q_HB
              refine value_ (w1 := w') (v := .int .i64 (wrap64 (a2_2))) (by rfl) rfl ?_ ?_
              · go_simp
                (try simp only [i64_w])
                try rfl
              refine hK.out _ _ ⟨v168, v171, m20_, m21_, (by rw [ha.out]; exact putSel_upk 12 hb_ rfl rfl rfl), Q_BK165, Q_BK166, Q_HB, Q_HO169, fun h0_ => absurd ((hoff 19 (by kernel_rfl)).symm.trans h0_) (by decide), Q_X20_, fun h0_ => absurd ((hoff 21 (by kernel_rfl)).symm.trans h0_) (by decide)⟩
            refine steps_cons ?_ ?_
            · rintro b a w' ⟨v168, v171, m20_, m21_, ha, Q_BK165, Q_BK166, Q_HB, Q_HO169, Q_HO172, Q_X20_, Q_X21_⟩ hb_ hon hoff
              refine ⟨_, rfl, fun K hK => ?_⟩
              have e24 : a.tmps[24]? = some (.int .i64 (wrap64 (a2_0))) := by rw [ha]; exact putSel_on (e := (12, 24, .int .i64 (wrap64 (a2_0)))) 8 rfl rfl (hon 12 (by kernel_rfl)) rfl
              have e27 : a.tmps[27]? = some (.int .i64 (wrap64 (a2_1))) := by rw [ha]; exact putSel_on (e := (15, 27, .int .i64 (wrap64 (a2_1)))) 10 rfl rfl (hon 15 (by kernel_rfl)) rfl
              have e30 : a.tmps[30]? = some (.int .i64 (wrap64 (a2_2))) := by rw [ha]; exact putSel_on (e := (18, 30, .int .i64 (wrap64 (a2_2)))) 12 rfl rfl (hon 18 (by kernel_rfl)) rfl
              replace ha := Aside0.mk ha
              have BK165 := Aside0.mk Q_BK165
              have BK166 := Aside0.mk Q_BK166
              have HB := Aside0.mk Q_HB
              refine Kd.R_lit_step (Kd.int .i64) _ 3 ?hg (N := 31) ?hd (xs := ([wrap64 (a2_0), wrap64 (a2_1), wrap64 (a2_2)] : List Int)) (inner := [.int .i64 (wrap64 (a2_0)), .int .i64 (wrap64 (a2_1)), .int .i64 (wrap64 (a2_2))]) (ok := fun _ => True) (okp := fun _ => True) ?hr ?hp (fun _ hk => hk) trivial (Below.refl _ _) (Nat.le_refl _) (by simp) ?_; (case hd => rfl); (case hg => rfl); (case hr => first | (go_simp; done) | (go_simp; rfl)); (case hp => exact (Reps.one (show Kd.M (Kd.int .i64) _ _ _ (wrap64 (a2_0)) [.int .i64 (wrap64 (a2_0))] from rfl) (Reps.one (show Kd.M (Kd.int .i64) _ _ _ (wrap64 (a2_1)) [.int .i64 (wrap64 (a2_1))] from rfl) (Reps.one (show Kd.M (Kd.int .i64) _ _ _ (wrap64 (a2_2)) [.int .i64 (wrap64 (a2_2))] from rfl) (Reps.none _ _)))))
              intro v171 w19 ho20 hb hg_ hnew_
              clear hg_ hnew_
              (first | rw [← Ny170.out] at ho20 | (simp only [Int.reduceToNat] at ho20; rw [← Ny170.out] at ho20))
              have n0_ := Aside0.mk (Kd.R_lower ho20 (below_size (by repeat (first | (with_reducible first | exact HB.out | apply below_alloc | apply pw_below_drewN | apply below_drew1 | refine below_set ?_ GE165.out | refine below_set ?_ GE166.out) | exact HB.out))))
              have n1_ := Aside0.mk (blk_below (g := gb165) (o := .cells #[.int .u32 a1_0, .int .u32 a1_1, .int .u32 a1_2] 23 (0, 0)) (by (with_reducible repeat (first | refine blk_drewN ?_ _ | refine blk_drew ?_ | refine blk_alloc ?_ _)); exact BK165.out) hb)
              have n2_ := Aside0.mk (blk_below (g := gb166) (o := .cells #[.int .u32 a2_0, .int .u32 a2_1, .int .u32 a2_2] 23 (0, 0)) (by (with_reducible repeat (first | refine blk_drewN ?_ _ | refine blk_drew ?_ | refine blk_alloc ?_ _)); exact BK166.out) hb)
              have n3_ := Aside0.mk (below_step (by repeat (first | (with_reducible first | exact HB.out | apply below_alloc | apply pw_below_drewN | apply below_drew1 | refine below_set ?_ GE165.out | refine below_set ?_ GE166.out) | exact HB.out)) hb)
              have z_HO169 := fun (h0_ : b 9 = true) => (show Kd.R (Kd.int .i64) 3 w19 w.heap.size (fun _ => True) v168 y167 from by first | exact (Kd.R_elder' (by (with_reducible repeat (first | apply Kd.R_alloc | apply Kd.R_drewN | apply Kd.R_drew)); exact (Q_HO169 h0_)) (Kd.R_base ho20) hb) | exact Kd.R_mono (Kd.R_elder' (by (with_reducible repeat (first | apply Kd.R_alloc | apply Kd.R_drewN | apply Kd.R_drew)); exact (Q_HO169 h0_)) (Kd.R_base ho20) hb) (fun _ h_ => by first | trivial | exact h_ | exact h_.1))
              clear BK165
              clear BK166
              clear HB
              have HO172 := n0_
              have BK165 := n1_
              have BK166 := n2_
              have HB := n3_
              clear n0_ n1_ n2_ n3_
              clear hb ho20
              refine hK.out _ _ ⟨v168, v171, m20_, m21_, (by rw [ha.out]; exact putSel_upk 13 hb_ rfl rfl rfl), (by (with_reducible repeat (first | refine blk_drewN ?_ _ | refine blk_drew ?_ | refine blk_alloc ?_ _)); exact BK165.out), (by (with_reducible repeat (first | refine blk_drewN ?_ _ | refine blk_drew ?_ | refine blk_alloc ?_ _)); exact BK166.out), (by repeat (first | (with_reducible first | exact HB.out | apply below_alloc | apply pw_below_drewN | apply below_drew1 | refine below_set ?_ GE165.out | refine below_set ?_ GE166.out) | exact HB.out)), z_HO169, fun _ => (by (with_reducible repeat (first | apply Kd.R_alloc | apply Kd.R_drewN | apply Kd.R_drew)); exact HO172.out), Q_X20_, fun h0_ => absurd ((hoff 21 (by kernel_rfl)).symm.trans h0_) (by decide)⟩
            refine steps_cons ?_ ?_
            · rintro b a w' ⟨v168, v171, m20_, m21_, ha, Q_BK165, Q_BK166, Q_HB, Q_HO169, Q_HO172, Q_X20_, Q_X21_⟩ hb_ hon hoff
              refine ⟨_, rfl, fun K hK => ?_⟩
              have e21 : a.tmps[21]? = some (v168) := by rw [ha]; exact putSel_on (e := (9, 21, v168)) 6 rfl rfl (hon 9 (by kernel_rfl)) rfl
              replace ha := Aside0.mk ha
              have BK165 := Aside0.mk Q_BK165
              have BK166 := Aside0.mk Q_BK166
              have HB := Aside0.mk Q_HB
              have HO169 := Aside0.mk (Q_HO169 (hon 9 (by kernel_rfl)))
              refine value_ (w1 := w') (v := v168) (by rfl) rfl ?_ ?_
              · go_simp
                (try simp only [i64_w])
                try rfl
              refine hK.out _ _ ⟨v168, v171, (v168), m21_, (by rw [ha.out]; exact putSel_upk 14 hb_ rfl rfl rfl), Q_BK165, Q_BK166, Q_HB, Q_HO169, Q_HO172, fun _ => rfl, fun h0_ => absurd ((hoff 21 (by kernel_rfl)).symm.trans h0_) (by decide)⟩
            refine steps_cons ?_ ?_
            · rintro b a w' ⟨v168, v171, m20_, m21_, ha, Q_BK165, Q_BK166, Q_HB, Q_HO169, Q_HO172, Q_X20_, Q_X21_⟩ hb_ hon hoff
              refine ⟨_, rfl, fun K hK => ?_⟩
              have e31 : a.tmps[31]? = some (v171) := by rw [ha]; exact putSel_on (e := (19, 31, v171)) 13 rfl rfl (hon 19 (by kernel_rfl)) rfl
              replace ha := Aside0.mk ha
              have BK165 := Aside0.mk Q_BK165
              have BK166 := Aside0.mk Q_BK166
              have HB := Aside0.mk Q_HB
              have HO169 := Aside0.mk (Q_HO169 (hon 9 (by kernel_rfl)))
              have HO172 := Aside0.mk (Q_HO172 (hon 19 (by kernel_rfl)))
              refine value_ (w1 := w') (v := v171) (by rfl) rfl ?_ ?_
              · go_simp
                (try simp only [i64_w])
                try rfl
              refine hK.out _ _ ⟨v168, v171, m20_, (v171), (by rw [ha.out]; exact putSel_upk 15 hb_ rfl rfl rfl), Q_BK165, Q_BK166, Q_HB, Q_HO169, Q_HO172, Q_X20_, fun _ => rfl⟩
            exact steps_nil
          rintro b a w23 hall ⟨v168, v171, m20_, m21_, ha, Q_BK165, Q_BK166, Q_HB, Q_HO169, Q_HO172, Q_X20_, Q_X21_⟩
          clear BK165 BK166 HB
          have hb1_ := hall 1 (by kernel_rfl)
          have hb2_ := hall 2 (by kernel_rfl)
          have hb4_ := hall 4 (by kernel_rfl)
          have hb5_ := hall 5 (by kernel_rfl)
          have hb7_ := hall 7 (by kernel_rfl)
          have hb8_ := hall 8 (by kernel_rfl)
          have hb9_ := hall 9 (by kernel_rfl)
          have hb11_ := hall 11 (by kernel_rfl)
          have hb12_ := hall 12 (by kernel_rfl)
          have hb14_ := hall 14 (by kernel_rfl)
          have hb15_ := hall 15 (by kernel_rfl)
          have hb17_ := hall 17 (by kernel_rfl)
          have hb18_ := hall 18 (by kernel_rfl)
          have hb19_ := hall 19 (by kernel_rfl)
          have hb20_ := hall 20 (by kernel_rfl)
          have hb21_ := hall 21 (by kernel_rfl)
          subst ha
          obtain rfl := Q_X20_ hb20_
          obtain rfl := Q_X21_ hb21_
          simp only [putSel, hb1_, hb2_, hb4_, hb5_, hb7_, hb8_, hb9_, hb11_, hb12_, hb14_, hb15_, hb17_, hb18_, hb19_, hb20_, hb21_, if_true, Act.put, List.setIfInBounds_toArray, List.set_cons_zero, List.set_cons_succ]
          have BK165 := Aside0.mk Q_BK165
          clear Q_BK165
          have BK166 := Aside0.mk Q_BK166
          clear Q_BK166
          have HB := Aside0.mk Q_HB
          clear Q_HB
          have HO169 := Aside0.mk (Q_HO169 hb9_)
          clear Q_HO169
          have HO172 := Aside0.mk (Q_HO172 hb19_)
          clear Q_HO172
          clear hall hb1_ hb2_ hb4_ hb5_ hb7_ hb8_ hb9_ hb11_ hb12_ hb14_ hb15_ hb17_ hb18_ hb19_ hb20_ hb21_
          obtain ⟨Ao24, co24, eo24⟩ := Kd.R_slice HO169.out
          subst eo24
          try go_wp2_with (first | ((with_reducible refine gate_callee (f := 10) rfl ?_); refine goesL_ (some 35) rfl rfl Try.func10 (by kernel_rfl) rfl #[.int .u8 a0, .slice Ao24 y167.length co24] rfl (by (try simp only [List.map_toArray, List.map_cons, List.map_nil]); first | done | rfl | (simp only [List.length_drop, List.length_take]; rfl)) ?_; (with_reducible refine (keys_Key.calls k a0 _ _ y167 t173 _ ?side1 ?side2 A4.out).mono ?_); (case side1 => repeat (first | exact (Kd.R_reads' HO169.out).2.2 | (with_reducible refine Kd.C_alloc ?_ _) | (with_reducible refine Kd.C_drewN ?_ _) | (with_reducible refine Kd.C_drew ?_))); (case side2 => exact (Kd.R_reads' HO169.out).2.1); rintro e w25 ⟨v174, rfl, ho0, hb⟩; refine ⟨_, rfl, ?_⟩; have n0_ := Aside0.mk (Kd.R_below (by (with_reducible repeat (first | apply Kd.R_alloc | apply Kd.R_drewN | apply Kd.R_drew)); exact HO169.out) hb); have n1_ := Aside0.mk (Kd.R_below (by (with_reducible repeat (first | apply Kd.R_alloc | apply Kd.R_drewN | apply Kd.R_drew)); exact HO172.out) hb); have n2_ := Aside0.mk (Kd.R_lower ho0 (below_size (by repeat (first | (with_reducible first | exact HB.out | apply below_alloc | apply pw_below_drewN | apply below_drew1 | refine below_set ?_ GE165.out | refine below_set ?_ GE166.out) | exact HB.out)))); have n3_ := Aside0.mk (blk_below (g := gb165) (o := .cells #[.int .u32 a1_0, .int .u32 a1_1, .int .u32 a1_2] 23 (0, 0)) (by (with_reducible repeat (first | refine blk_drewN ?_ _ | refine blk_drew ?_ | refine blk_alloc ?_ _)); exact BK165.out) hb); have n4_ := Aside0.mk (blk_below (g := gb166) (o := .cells #[.int .u32 a2_0, .int .u32 a2_1, .int .u32 a2_2] 23 (0, 0)) (by (with_reducible repeat (first | refine blk_drewN ?_ _ | refine blk_drew ?_ | refine blk_alloc ?_ _)); exact BK166.out) hb); have n5_ := Aside0.mk (below_step (by repeat (first | (with_reducible first | exact HB.out | apply below_alloc | apply pw_below_drewN | apply below_drew1 | refine below_set ?_ GE165.out | refine below_set ?_ GE166.out) | exact HB.out)) hb); clear HO169; clear HO172; clear BK165; clear BK166; clear HB; have HO169 := n0_; have HO172 := n1_; have HO175 := n2_; have BK165 := n3_; have BK166 := n4_; have HB := n5_; clear n0_ n1_ n2_ n3_ n4_ n5_; (try clear hb); (try clear hb2); (try clear hk); (try clear hi); (try clear ho0); obtain ⟨Ao26, co26, eo26⟩ := Kd.R_slice HO175.out; subst eo26) | ((with_reducible refine gate_callee (f := 9) rfl ?_); refine goesL_ (some 36) rfl rfl Try.func9 (by kernel_rfl) rfl #[.slice Ao26 t173.length co26] rfl (by (try simp only [List.map_toArray, List.map_cons, List.map_nil]); first | done | rfl | (simp only [List.length_drop, List.length_take]; rfl)) ?_; (with_reducible refine (keys_Split.calls k _ _ t173 t176 t177 true _ ?side1 ?side2 A5.out).mono ?_); (case side1 => repeat (first | exact (Kd.R_reads' HO175.out).2.2 | (with_reducible refine Kd.C_alloc ?_ _) | (with_reducible refine Kd.C_drewN ?_ _) | (with_reducible refine Kd.C_drew ?_))); (case side2 => exact (Kd.R_reads' HO175.out).2.1); rintro e w27 ⟨v179, rfl, ho0, hb⟩; refine ⟨_, rfl, ?_⟩; have n0_ := Aside0.mk (Kd.R_elder' (by (with_reducible repeat (first | apply Kd.R_alloc | apply Kd.R_drewN | apply Kd.R_drew)); exact HO169.out) (Kd.R_base ho0) hb); have n1_ := Aside0.mk (Kd.R_elder' (by (with_reducible repeat (first | apply Kd.R_alloc | apply Kd.R_drewN | apply Kd.R_drew)); exact HO172.out) (Kd.R_base ho0) hb); have n2_ := Aside0.mk (Kd.R_below (by (with_reducible repeat (first | apply Kd.R_alloc | apply Kd.R_drewN | apply Kd.R_drew)); exact HO175.out) hb); have n3_ := Aside0.mk (Kd.R_lower (Kd.R_new' (Kd.R_new' ho0 (Kd.R_lt (by (with_reducible repeat (first | apply Kd.R_alloc | apply Kd.R_drewN | apply Kd.R_drew)); exact HO169.out))) (Kd.R_lt (by (with_reducible repeat (first | apply Kd.R_alloc | apply Kd.R_drewN | apply Kd.R_drew)); exact HO172.out))) (below_size (by repeat (first | (with_reducible first | exact HB.out | apply below_alloc | apply pw_below_drewN | apply below_drew1 | refine below_set ?_ GE165.out | refine below_set ?_ GE166.out) | exact HB.out)))); have n4_ := Aside0.mk (blk_below (g := gb165) (o := .cells #[.int .u32 a1_0, .int .u32 a1_1, .int .u32 a1_2] 23 (0, 0)) (by (with_reducible repeat (first | refine blk_drewN ?_ _ | refine blk_drew ?_ | refine blk_alloc ?_ _)); exact BK165.out) hb); have n5_ := Aside0.mk (blk_below (g := gb166) (o := .cells #[.int .u32 a2_0, .int .u32 a2_1, .int .u32 a2_2] 23 (0, 0)) (by (with_reducible repeat (first | refine blk_drewN ?_ _ | refine blk_drew ?_ | refine blk_alloc ?_ _)); exact BK166.out) hb); have n6_ := Aside0.mk (below_step (by repeat (first | (with_reducible first | exact HB.out | apply below_alloc | apply pw_below_drewN | apply below_drew1 | refine below_set ?_ GE165.out | refine below_set ?_ GE166.out) | exact HB.out)) hb); clear HO169; clear HO172; clear HO175; clear BK165; clear BK166; clear HB; have HO169 := n0_; have HO172 := n1_; have HO175 := n2_; have HO180 := n3_; have BK165 := n4_; have BK166 := n5_; have HB := n6_; clear n0_ n1_ n2_ n3_ n4_ n5_ n6_; (try clear hb); (try clear hb2); (try clear hk); (try clear hi); (try clear ho0); obtain ⟨Ao28, co28, eo28⟩ := Kd.R_slice HO180.out; subst eo28) | (go_at_call 11; (with_reducible refine (slices_Equal_int_int.calls k _ _ t177 _ _ y167 true _ ?side1 ?side2 ?side3 ?side4 A8.out).mono ?_); (case side1 => repeat (first | exact (Kd.R_reads' HO180.out).2.2 | (with_reducible refine Kd.C_alloc ?_ _) | (with_reducible refine Kd.C_drewN ?_ _) | (with_reducible refine Kd.C_drew ?_))); (case side2 => exact (Kd.R_reads' HO180.out).2.1); (case side3 => repeat (first | exact (Kd.R_reads' HO169.out).2.2 | (with_reducible refine Kd.C_alloc ?_ _) | (with_reducible refine Kd.C_drewN ?_ _) | (with_reducible refine Kd.C_drew ?_))); (case side4 => exact (Kd.R_reads' HO169.out).2.1); rintro e w' ⟨rfl, ⟨nd, rfl⟩⟩) | (go_at_call 10; (with_reducible refine (keys_Key.calls k a0 _ _ y167 t182 _ ?side1 ?side2 A10.out).mono ?_); (case side1 => repeat (first | exact (Kd.R_reads' HO169.out).2.2 | (with_reducible refine Kd.C_alloc ?_ _) | (with_reducible refine Kd.C_drewN ?_ _) | (with_reducible refine Kd.C_drew ?_))); (case side2 => exact (Kd.R_reads' HO169.out).2.1); rintro e w29 ⟨v183, rfl, ho0, hb⟩; have n0_ := Aside0.mk (Kd.R_below (by (with_reducible repeat (first | apply Kd.R_alloc | apply Kd.R_drewN | apply Kd.R_drew)); exact HO169.out) hb); have n1_ := Aside0.mk (Kd.R_below (by (with_reducible repeat (first | apply Kd.R_alloc | apply Kd.R_drewN | apply Kd.R_drew)); exact HO172.out) hb); have n2_ := Aside0.mk (Kd.R_elder' (by (with_reducible repeat (first | apply Kd.R_alloc | apply Kd.R_drewN | apply Kd.R_drew)); exact HO175.out) (Kd.R_base ho0) hb); have n3_ := Aside0.mk (Kd.R_below (by (with_reducible repeat (first | apply Kd.R_alloc | apply Kd.R_drewN | apply Kd.R_drew)); exact HO180.out) hb); have n4_ := Aside0.mk (Kd.R_lower (Kd.R_new' ho0 (Kd.R_lt (by (with_reducible repeat (first | apply Kd.R_alloc | apply Kd.R_drewN | apply Kd.R_drew)); exact HO175.out))) (below_size (by repeat (first | (with_reducible first | exact HB.out | apply below_alloc | apply pw_below_drewN | apply below_drew1 | refine below_set ?_ GE165.out | refine below_set ?_ GE166.out) | exact HB.out)))); have n5_ := Aside0.mk (blk_below (g := gb165) (o := .cells #[.int .u32 a1_0, .int .u32 a1_1, .int .u32 a1_2] 23 (0, 0)) (by (with_reducible repeat (first | refine blk_drewN ?_ _ | refine blk_drew ?_ | refine blk_alloc ?_ _)); exact BK165.out) hb); have n6_ := Aside0.mk (blk_below (g := gb166) (o := .cells #[.int .u32 a2_0, .int .u32 a2_1, .int .u32 a2_2] 23 (0, 0)) (by (with_reducible repeat (first | refine blk_drewN ?_ _ | refine blk_drew ?_ | refine blk_alloc ?_ _)); exact BK166.out) hb); have n7_ := Aside0.mk (below_step (by repeat (first | (with_reducible first | exact HB.out | apply below_alloc | apply pw_below_drewN | apply below_drew1 | refine below_set ?_ GE165.out | refine below_set ?_ GE166.out) | exact HB.out)) hb); clear HO169; clear HO172; clear HO175; clear HO180; clear BK165; clear BK166; clear HB; have HO169 := n0_; have HO172 := n1_; have HO175 := n2_; have HO180 := n3_; have HO184 := n4_; have BK165 := n5_; have BK166 := n6_; have HB := n7_; clear n0_ n1_ n2_ n3_ n4_ n5_ n6_ n7_; (try clear hb); (try clear hb2); (try clear hk); (try clear hi); (try clear ho0); obtain ⟨Ao30, co30, eo30⟩ := Kd.R_slice HO172.out; subst eo30) | (go_at_call 10; (with_reducible refine (keys_Key.calls k a0 _ _ y170 t185 _ ?side1 ?side2 A11.out).mono ?_); (case side1 => repeat (first | exact (Kd.R_reads' HO172.out).2.2 | (with_reducible refine Kd.C_alloc ?_ _) | (with_reducible refine Kd.C_drewN ?_ _) | (with_reducible refine Kd.C_drew ?_))); (case side2 => exact (Kd.R_reads' HO172.out).2.1); rintro e w31 ⟨v186, rfl, ho0, hb⟩; have n0_ := Aside0.mk (Kd.R_below (by (with_reducible repeat (first | apply Kd.R_alloc | apply Kd.R_drewN | apply Kd.R_drew)); exact HO169.out) hb); have n1_ := Aside0.mk (Kd.R_below (by (with_reducible repeat (first | apply Kd.R_alloc | apply Kd.R_drewN | apply Kd.R_drew)); exact HO172.out) hb); have n2_ := Aside0.mk (Kd.R_elder' (by (with_reducible repeat (first | apply Kd.R_alloc | apply Kd.R_drewN | apply Kd.R_drew)); exact HO175.out) (Kd.R_base ho0) hb); have n3_ := Aside0.mk (Kd.R_below (by (with_reducible repeat (first | apply Kd.R_alloc | apply Kd.R_drewN | apply Kd.R_drew)); exact HO180.out) hb); have n4_ := Aside0.mk (Kd.R_elder' (by (with_reducible repeat (first | apply Kd.R_alloc | apply Kd.R_drewN | apply Kd.R_drew)); exact HO184.out) (Kd.R_base ho0) hb); have n5_ := Aside0.mk (Kd.R_lower (Kd.R_new' (Kd.R_new' ho0 (Kd.R_lt (by (with_reducible repeat (first | apply Kd.R_alloc | apply Kd.R_drewN | apply Kd.R_drew)); exact HO175.out))) (Kd.R_lt (by (with_reducible repeat (first | apply Kd.R_alloc | apply Kd.R_drewN | apply Kd.R_drew)); exact HO184.out))) (below_size (by repeat (first | (with_reducible first | exact HB.out | apply below_alloc | apply pw_below_drewN | apply below_drew1 | refine below_set ?_ GE165.out | refine below_set ?_ GE166.out) | exact HB.out)))); have n6_ := Aside0.mk (blk_below (g := gb165) (o := .cells #[.int .u32 a1_0, .int .u32 a1_1, .int .u32 a1_2] 23 (0, 0)) (by (with_reducible repeat (first | refine blk_drewN ?_ _ | refine blk_drew ?_ | refine blk_alloc ?_ _)); exact BK165.out) hb); have n7_ := Aside0.mk (blk_below (g := gb166) (o := .cells #[.int .u32 a2_0, .int .u32 a2_1, .int .u32 a2_2] 23 (0, 0)) (by (with_reducible repeat (first | refine blk_drewN ?_ _ | refine blk_drew ?_ | refine blk_alloc ?_ _)); exact BK166.out) hb); have n8_ := Aside0.mk (below_step (by repeat (first | (with_reducible first | exact HB.out | apply below_alloc | apply pw_below_drewN | apply below_drew1 | refine below_set ?_ GE165.out | refine below_set ?_ GE166.out) | exact HB.out)) hb); clear HO169; clear HO172; clear HO175; clear HO180; clear HO184; clear BK165; clear BK166; clear HB; have HO169 := n0_; have HO172 := n1_; have HO175 := n2_; have HO180 := n3_; have HO184 := n4_; have HO187 := n5_; have BK165 := n6_; have BK166 := n7_; have HB := n8_; clear n0_ n1_ n2_ n3_ n4_ n5_ n6_ n7_ n8_; (try clear hb); (try clear hb2); (try clear hk); (try clear hi); (try clear ho0); obtain ⟨Ao32, co32, eo32⟩ := Kd.R_slice HO184.out; subst eo32; obtain ⟨Ao33, co33, eo33⟩ := Kd.R_slice HO187.out; subst eo33) | (go_at_call 12; (with_reducible refine (bytes_Compare.calls _ _ t182 _ _ t185 t188 _ ?side1 ?side2 ?side3 ?side4 A12.out).mono ?_); (case side1 => repeat (first | exact (Kd.R_reads' HO184.out).2.2 | (with_reducible refine Kd.C_alloc ?_ _) | (with_reducible refine Kd.C_drewN ?_ _) | (with_reducible refine Kd.C_drew ?_))); (case side2 => exact (Kd.R_reads' HO184.out).2.1); (case side3 => repeat (first | exact (Kd.R_reads' HO187.out).2.2 | (with_reducible refine Kd.C_alloc ?_ _) | (with_reducible refine Kd.C_drewN ?_ _) | (with_reducible refine Kd.C_drew ?_))); (case side4 => exact (Kd.R_reads' HO187.out).2.1); rintro e w' ⟨rfl, ⟨nd, rfl⟩⟩) | (go_at_call 13; (with_reducible refine (slices_Compare_int_int.calls k _ _ y167 _ _ y170 t189 _ ?side1 ?side2 ?side3 ?side4 A13.out).mono ?_); (case side1 => repeat (first | exact (Kd.R_reads' HO169.out).2.2 | (with_reducible refine Kd.C_alloc ?_ _) | (with_reducible refine Kd.C_drewN ?_ _) | (with_reducible refine Kd.C_drew ?_))); (case side2 => exact (Kd.R_reads' HO169.out).2.1); (case side3 => repeat (first | exact (Kd.R_reads' HO172.out).2.2 | (with_reducible refine Kd.C_alloc ?_ _) | (with_reducible refine Kd.C_drewN ?_ _) | (with_reducible refine Kd.C_drew ?_))); (case side4 => exact (Kd.R_reads' HO172.out).2.1); rintro e w' ⟨rfl, ⟨nd, rfl⟩⟩) | (go_at_call 14; (with_reducible refine (exchequerlaw18_awake.calls k  t190 _ A15.out).mono ?_); rintro e w34 ⟨rfl, hb⟩; have n0_ := Aside0.mk (Kd.R_below (by (with_reducible repeat (first | apply Kd.R_alloc | apply Kd.R_drewN | apply Kd.R_drew)); exact HO169.out) hb); have n1_ := Aside0.mk (Kd.R_below (by (with_reducible repeat (first | apply Kd.R_alloc | apply Kd.R_drewN | apply Kd.R_drew)); exact HO172.out) hb); have n2_ := Aside0.mk (Kd.R_below (by (with_reducible repeat (first | apply Kd.R_alloc | apply Kd.R_drewN | apply Kd.R_drew)); exact HO175.out) hb); have n3_ := Aside0.mk (Kd.R_below (by (with_reducible repeat (first | apply Kd.R_alloc | apply Kd.R_drewN | apply Kd.R_drew)); exact HO180.out) hb); have n4_ := Aside0.mk (Kd.R_below (by (with_reducible repeat (first | apply Kd.R_alloc | apply Kd.R_drewN | apply Kd.R_drew)); exact HO184.out) hb); have n5_ := Aside0.mk (Kd.R_below (by (with_reducible repeat (first | apply Kd.R_alloc | apply Kd.R_drewN | apply Kd.R_drew)); exact HO187.out) hb); have n6_ := Aside0.mk (blk_below (g := gb165) (o := .cells #[.int .u32 a1_0, .int .u32 a1_1, .int .u32 a1_2] 23 (0, 0)) (by (with_reducible repeat (first | refine blk_drewN ?_ _ | refine blk_drew ?_ | refine blk_alloc ?_ _)); exact BK165.out) hb); have n7_ := Aside0.mk (blk_below (g := gb166) (o := .cells #[.int .u32 a2_0, .int .u32 a2_1, .int .u32 a2_2] 23 (0, 0)) (by (with_reducible repeat (first | refine blk_drewN ?_ _ | refine blk_drew ?_ | refine blk_alloc ?_ _)); exact BK166.out) hb); have n8_ := Aside0.mk (below_step (by repeat (first | (with_reducible first | exact HB.out | apply below_alloc | apply pw_below_drewN | apply below_drew1 | refine below_set ?_ GE165.out | refine below_set ?_ GE166.out) | exact HB.out)) hb); clear HO169; clear HO172; clear HO175; clear HO180; clear HO184; clear HO187; clear BK165; clear BK166; clear HB; have HO169 := n0_; have HO172 := n1_; have HO175 := n2_; have HO180 := n3_; have HO184 := n4_; have HO187 := n5_; have BK165 := n6_; have BK166 := n7_; have HB := n8_; clear n0_ n1_ n2_ n3_ n4_ n5_ n6_ n7_ n8_; (try clear hb); (try clear hb2); (try clear hk); (try clear hi)))
          go_ret
          exact ⟨by first | rfl | (simp [errW_none, errW_some] <;> rfl) | (simp [*, errW_none, errW_some] <;> rfl), by repeat (first | (with_reducible first | exact HB.out | apply below_alloc | apply pw_below_drewN | apply below_drew1 | refine below_set ?_ GE165.out | refine below_set ?_ GE166.out) | exact HB.out)⟩
        · rw [if_neg c14] at H
          have c14b0 : (t188 == t189) = false := beq_eq_false_iff_ne.mpr c14
          have c14b1 : (t188 != t189) = true := bne_iff_ne.mpr c14
          exact absurd ((Option.some.inj H).trans ht_.out) (by decide)
      · replace c9 := Bool.eq_false_iff.mpr c9
        subst c9
        have H1 : (some false) = some r := by rw [if_neg (show ¬ (false = true) by decide)] at H; exact H
        clear H
        have H := H1
        clear H1
        exact absurd ((Option.some.inj H).trans ht_.out) (by decide)
    · rw [if_neg c7] at H
      have c7b0 : (t176 == a0) = false := beq_eq_false_iff_ne.mpr c7
      have c7b1 : (t176 != a0) = true := bne_iff_ne.mpr c7
      exact absurd ((Option.some.inj H).trans ht_.out) (by decide)
  · replace c6 := Bool.eq_false_iff.mpr c6
    subst c6
    have H1 : (some false) = some r := by rw [if_neg (show ¬ (false = true) by decide)] at H; exact H
    clear H
    have H := H1
    clear H1
    exact absurd ((Option.some.inj H).trans ht_.out) (by decide)

end Go.Proofs.Ytkahpaipciooiab.PKeysOrder

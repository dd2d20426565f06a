/- The contract of the reference's Put, over what is known of memory. -/
import Derived.Test.YtkahpaipciooiadScrE
namespace Go.Proofs.Ytkahpaipciooiad.Al
open Go Go.Al Go.Proofs Go.RowKit
set_option maxHeartbeats 8000000
set_option maxRecDepth 100000
set_option linter.unusedVariables false
set_option linter.unusedSimpArgs false
theorem draw_cut {P : Program} {T : Tab} {ops : Array Oper} {K : Env → Heap → Prop} {env : Env} {F : Heap} (Post : Env → Heap → Prop) (h : ∀ K : Env → Heap → Prop, (∀ env' F', Post env' F' → K env' F') → DrawK P T ops K env F) (hk : ∀ env' F', Post env' F' → K env' F') : DrawK P T ops K env F := h K hk
theorem putM_app (m : Nat) (a b : List UInt8) (n : Int) : putM m (a ++ b) n = a ++ putM m b n := by
  unfold putM
  cases inM m n with
  | true => rw [cond_true, cond_true, List.append_assoc]
  | false => rfl
theorem putAllM_app (m : Nat) : ∀ (l : List Int) (a b : List UInt8), putAllM m (a ++ b) l = a ++ putAllM m b l := by
  intro l
  induction l with
  | nil => intro a b; rfl
  | cons n l ih =>
    intro a b
    show putAllM m (putM m (a ++ b) n) l = a ++ putAllM m (putM m b n) l
    rw [putM_app, ih]
theorem u8_event : (5 : Nat) ≠ 47 := by decide
theorem rput (rs : List ER) (A : Option Addr) (c : Nat) (F : Heap) (hr : RowAt F A (evsV rs)) (hok : ∀ r ∈ rs, EvOk F r) (hsz : ∀ r ∈ rs, r.e.bs.length ≤ 600 ∧ r.e.ks.length ≤ 200) (hl : rs.length ≤ 100) :
    FnK Try.prog 31 #[.slice A rs.length c] F (fun v F' => Mine F F' v 5 1 (putS (rs.map (·.e))).length (bytesOf (putS (rs.map (·.e))))) := by
  (refine fn_walk tab_ok Try.func31 rfl rfl rfl rfl ?_; (conv => whnf))
  refine loop_slots [0, 3, 4] (fun mm vs F' => ∃ (j : Nat) (S : Value), j + mm = rs.length ∧ vs = [.slice A rs.length c, S, .int .i64 (j : Int)] ∧ Mine F F' S 5 1 (putS ((rs.take j).map (·.e))).length (bytesOf (putS ((rs.take j).map (·.e))))) rs.length ⟨0, .slice none 0 0, by omega, rfl, Mine.nil _ _ _ _ (Ext.refl F)⟩ ?_
  rintro mm vs F2 ρ ⟨j, S, hjm, rfl, hM⟩
  (conv => whnf)
  refine cond_split (fun h => ?_) (fun h => ?_)
  · have hj : j < rs.length := by have := of_decide_eq_true h; omega
    obtain ⟨ad, rfl⟩ := hr.some (by rw [evsV_len]; omega)
    have hx : rs[j]? = some rs[j] := List.getElem?_eq_getElem hj
    have hst := putS_take hx
    have hLr := fun (K : Value → Prop) => ev_load (K := K) (hr.mono hM.ext) hj
    have hev := hok rs[j] (List.getElem_mem hj)
    have hzz := hsz rs[j] (List.getElem_mem hj)
    have hpl := putS_len 0 (rs.take j) fun r hr => hsz r (List.mem_of_mem_take hr)
    rw [List.length_take] at hpl
    generalize rs[j] = r at hst hLr hev hzz
    obtain ⟨⟨k, n, bs, ks⟩, A1, c1, B1, cc1⟩ := r
    obtain ⟨e1, e2, e3⟩ := hev
    dsimp only at e1 e2 e3 hst hzz
    generalize putS ((rs.take j).map (·.e)) = cur at hst hM hpl
    have hcb : cur ++ codeB ⟨k, n, bs, ks⟩ = putAllM 2 (putM 2 (putM 2 (cur ++ [byteAt k 0]) n) (bs.length : Int) ++ bs ++ [byteAt (ks.length : Int) 0]) ks := by
      show cur ++ putAllM 2 (putM 2 (putM 2 [byteAt k 0] n) (bs.length : Int) ++ (bs ++ [byteAt (ks.length : Int) 0])) ks = _
      rw [← putAllM_app, putM_app, putM_app, ← List.append_assoc, ← List.append_assoc]
    have hcl := codeB_len ⟨k, n, bs, ks⟩
    dsimp only at hcl
    have h1 := fun G hg => rcheck k n bs ks A1 c1 B1 cc1 G hg (by omega)
    have w0 := wrap_byte k
    have w1 := wrap_byte (ks.length : Int)
    have l1 := putM_len 2 (cur ++ [byteAt k 0]) n
    have l2 := putM_len 2 (putM 2 (cur ++ [byteAt k 0]) n) (bs.length : Int)
    generalize checkB ⟨k, n, bs, ks⟩ = ok at hst h1
    generalize codeB ⟨k, n, bs, ks⟩ = cd at hst hcb hcl
    generalize byteAt k 0 = y0 at w0 hcb l1 l2
    generalize byteAt (ks.length : Int) 0 = y1 at w1 hcb
    have l0 : (cur ++ [y0]).length = cur.length + 1 := by rw [List.length_append]; rfl
    have hcp : cur.length ≤ 100600 := by
      have := Nat.min_le_right j rs.length
      omega
    (conv => whnf)
    refine ⟨⟨by omega, by omega⟩, ?_⟩
    (conv => whnf)
    refine hLr _ ?_
    (conv => whnf)
    refine new_step (evO 0 0 (.slice none 0 0) (.slice none 0 0)) rfl fun u hu => ?_
    have hU := Heap.put_same F2 u (evO 0 0 (.slice none 0 0) (.slice none 0 0))
    have hEu : ∀ o, Ext F2 ((F2.put u (evO 0 0 (.slice none 0 0) (.slice none 0 0))).put u o) := fun o => ext_put_put hu
    generalize F2.put u _ = F3 at hU hEu ⊢
    have o1 : ∀ v ∈ [Value.int .i64 k, .int .i64 n, .slice A1 bs.length c1, .slice B1 ks.length cc1], v.oneCell' = true := by simp [Value.oneCell']
    (conv => whnf)
    refine store_step u 0 _ (evC k n (.slice A1 bs.length c1) (.slice B1 ks.length cc1)) rfl hU rfl rfl (.inl (Nat.le_refl 0)) o1 ?_
    have hU4 := Heap.put_same F3 u (evO k n (.slice A1 bs.length c1) (.slice B1 ks.length cc1))
    have hM4 := hM.mono (hEu (evO k n (.slice A1 bs.length c1) (.slice B1 ks.length cc1)))
    generalize F3.put u _ = F4 at hU4 hM4 ⊢
    refine short [0, 3, 4, 5] [.slice (some ad) rs.length c, S, .int .i64 (j : Int), .pointer (some ⟨u, 0, none⟩)] rfl fun ρ => ?_
    (conv => whnf)
    refine ⟨⟨_, _, _, hU4, rfl, Nat.le_refl 4, ?_⟩⟩
    (conv => whnf)
    refine call_of (h1 F4 (e2.mono hM4.ext)) ?_
    rintro v F5 ⟨rfl, hE5⟩
    have hU5 := hE5 _ _ hU4
    have hM5 := hM4.mono hE5
    cases ok with
    | false =>
      (conv => whnf)
      refine ⟨mm - 1, by omega, j + 1, S, by omega, ?_, ?_⟩
      · have hw : IntKind.i64.wrap ((j : Int) + 1) = ((j + 1 : Nat) : Int) := by rw [IntKind.wrap_i64]; omega
        rw [← hw]
        rfl
      · rw [hst, if_neg (by decide), List.append_nil]
        exact hM5
    | true =>
      rw [if_pos rfl] at hst
      (conv => whnf)
      refine draw_cut (fun env' F' => ∃ S', Mine F F' S' 5 1 (putM 2 (putM 2 (cur ++ [y0]) n) (bs.length : Int)).length (bytesOf (putM 2 (putM 2 (cur ++ [y0]) n) (bs.length : Int))) ∧ F' u = some (evO k n (.slice A1 bs.length c1) (.slice B1 ks.length cc1)) ∧ env' 0 = .slice (some ad) rs.length c ∧ env' 3 = S' ∧ env' 4 = .int .i64 (j : Int) ∧ env' 5 = .pointer (some ⟨u, 0, none⟩)) (fun K hK => ?_) ?_
      · refine draw_tree_at tab_ok (by kernel_rfl) [2, 7, 10] (DT.row [0, 1, 2, 3, 6, 7, 9, 10, 11, 4, 5, 8, 12, 13] .nil) (by kernel_rfl) (F5.only u) (only_ext rfl) ?_
        (conv => whnf)
        refine load_blk (only_at hU5) rfl rfl ?_
        (conv => whnf)
        refine load_blk (only_at hU5) rfl rfl ?_
        (conv => whnf)
        refine load_blk (only_at hU5) rfl rfl ?_
        (conv => whnf)
        refine new_step (.cells (bytesOf [y0]).toArray 5) (congrArg (fun z => Obj.cells #[Value.int .u8 z] 5) w0) fun g hg => ?_
        have hX := Ext.new hg (.cells (bytesOf [y0]).toArray 5)
        have hG := Heap.put_same F5 g (.cells (bytesOf [y0]).toArray 5)
        have hU6 := hX _ _ hU5
        have hM6 := hM5.mono hX
        generalize F5.put g _ = F6 at hG hU6 hM6 ⊢
        refine ⟨only_ext (by rw [hU5, hU6]), ?_⟩
        (conv => whnf)
        refine append_mine tab_ok rfl rfl rfl rfl rfl ⟨_, rfl, fun k h => by cases h⟩ ⟨_, rfl, rfl⟩ (by decide) hM6 (m := 1) (ys := bytesOf [y0]) (y := .slice (some ⟨g, 0, none⟩) 1 1) ⟨rfl, .inl ⟨_, _, rfl, row1 hG⟩⟩ (hone_bytes _) (by show 2 * (cur.length + 1) * 1 ≤ _; omega) fun s7 F7 hM7 hk7 => ?_
        have hU7 := hk7 _ _ hU6 (hM6.own.blk_ne hU6 u8_event)
        have hM7' : Mine F F7 s7 5 1 (cur ++ [y0]).length (bytesOf (cur ++ [y0])) := by
          rw [List.length_append, bytes_app]; exact hM7
        refine ⟨only_ext (by rw [hU5, hU7]), ?_⟩
        obtain ⟨A7, c7, rfl, _, hR7⟩ := hM7'.own.row
        (conv => whnf)
        refine call_of (rputG 2 (.inr (.inl rfl)) (cur ++ [y0]) A7 c7 n F7 hR7 (by omega)) ?_
        rintro s8 F8 hM8
        have hU8 := hM8.ext _ _ hU7
        replace hM8 := hM8.down hM7'.ext
        refine ⟨only_ext (by rw [hU5, hU8]), ?_⟩
        obtain ⟨A8, c8, rfl, _, hR8⟩ := hM8.own.row
        (conv => whnf)
        refine call_of (rputG 2 (.inr (.inl rfl)) (putM 2 (cur ++ [y0]) n) A8 c8 (bs.length : Int) F8 hR8 (by omega)) ?_
        rintro s9 F9 hM9
        have hU9 := hM9.ext _ _ hU8
        replace hM9 := hM9.down hM8.ext
        refine ⟨only_ext (by rw [hU5, hU9]), ?_⟩
        (conv => whnf)
        exact hK _ _ ⟨s9, hM9, hU9, rfl, rfl, rfl, rfl⟩
      · rintro env' F6 ⟨s6, hM6, hU6, q0, q3, q4, q5⟩
        refine short [0, 3, 4, 5] [.slice (some ad) rs.length c, s6, .int .i64 (j : Int), .pointer (some ⟨u, 0, none⟩)] (by simp only [List.map_cons, List.map_nil, q0, q3, q4, q5]) fun ρ => ?_
        generalize putM 2 (putM 2 (cur ++ [y0]) n) (bs.length : Int) = p2 at hM6 hcb l2
        clear q0 q3 q4 q5
        (conv => whnf)
        refine draw_cut (fun env' F' => ∃ S', Mine F F' S' 5 1 (p2 ++ bs ++ [y1]).length (bytesOf (p2 ++ bs ++ [y1])) ∧ F' u = some (evO k n (.slice A1 bs.length c1) (.slice B1 ks.length cc1)) ∧ env' 0 = .slice (some ad) rs.length c ∧ env' 3 = S' ∧ env' 4 = .int .i64 (j : Int) ∧ env' 5 = .pointer (some ⟨u, 0, none⟩)) (fun K hK => ?_) ?_
        · refine draw_tree_at tab_ok (by kernel_rfl) [2, 5] (DT.row [0, 1, 2, 4, 5, 6, 7] (.fork (DT.row [3, 8, 9, 10] .nil) (DT.row [8, 3, 9, 10] .nil))) (by kernel_rfl) (F6.only u) (only_ext rfl) ?_
          (conv => whnf)
          refine load_blk (only_at hU6) rfl rfl ?_
          (conv => whnf)
          refine load_blk (only_at hU6) rfl rfl ?_
          (conv => whnf)
          refine ⟨?_, ?_⟩
          · (conv => whnf)
            refine append_mine tab_ok rfl rfl rfl rfl rfl ⟨_, rfl, fun k h => by cases h⟩ ⟨_, rfl, rfl⟩ (by decide) hM6 (m := bs.length) (ys := bytesOf bs) (y := .slice A1 bs.length c1) ⟨by simp [bytesOf], .inl ⟨_, _, rfl, e1.mono hM6.ext⟩⟩ (hone_bytes bs) (by show 2 * (p2.length + bs.length) * 1 ≤ _; omega) fun s7 F7 hM7 hk7 => ?_
            have hU7 := hk7 _ _ hU6 (hM6.own.blk_ne hU6 u8_event)
            refine ⟨only_ext (by rw [hU6, hU7]), ?_⟩
            (conv => whnf)
            refine new_step (.cells (bytesOf [y1]).toArray 5) (congrArg (fun z => Obj.cells #[Value.int .u8 z] 5) w1) fun g hg => ?_
            have hX := Ext.new hg (.cells (bytesOf [y1]).toArray 5)
            have hG := Heap.put_same F7 g (.cells (bytesOf [y1]).toArray 5)
            have hU8 := hX _ _ hU7
            have hM8 := hM7.mono hX
            generalize F7.put g _ = F8 at hG hU8 hM8 ⊢
            refine ⟨only_ext (by rw [hU6, hU8]), ?_⟩
            (conv => whnf)
            refine append_mine tab_ok rfl rfl rfl rfl rfl ⟨_, rfl, fun k h => by cases h⟩ ⟨_, rfl, rfl⟩ (by decide) hM8 (m := 1) (ys := bytesOf [y1]) (y := .slice (some ⟨g, 0, none⟩) 1 1) ⟨rfl, .inl ⟨_, _, rfl, row1 hG⟩⟩ (hone_bytes _) (by show 2 * (p2.length + bs.length + 1) * 1 ≤ _; omega) fun s9 F9 hM9 hk9 => ?_
            have hU9 := hk9 _ _ hU8 (hM8.own.blk_ne hU8 u8_event)
            refine ⟨only_ext (by rw [hU6, hU9]), ?_⟩
            have hMM : Mine F F9 s9 5 1 (p2 ++ bs ++ [y1]).length (bytesOf (p2 ++ bs ++ [y1])) := by
              rw [List.length_append, List.length_append, bytes_app, bytes_app]; exact hM9
            (conv => whnf)
            exact hK _ _ ⟨s9, hMM, hU9, rfl, rfl, rfl, rfl⟩
          · (conv => whnf)
            refine new_step (.cells (bytesOf [y1]).toArray 5) (congrArg (fun z => Obj.cells #[Value.int .u8 z] 5) w1) fun g hg => ?_
            have hX := Ext.new hg (.cells (bytesOf [y1]).toArray 5)
            have hG := Heap.put_same F6 g (.cells (bytesOf [y1]).toArray 5)
            have hU7 := hX _ _ hU6
            have hM7 := hM6.mono hX
            have hgb : blk s6 ≠ some g := fun e => by
              rcases hM6.own.2 with ⟨h1, _⟩ | ⟨b', c', cs', h1, ⟨fz', hb, _⟩, _⟩
              · subst h1; cases e
              · subst h1
                obtain rfl : b' = g := Option.some.inj e
                rw [hb] at hg; cases hg
            generalize F6.put g _ = F7 at hG hU7 hM7 ⊢
            refine ⟨only_ext (by rw [hU6, hU7]), ?_⟩
            (conv => whnf)
            refine append_mine tab_ok rfl rfl rfl rfl rfl ⟨_, rfl, fun k h => by cases h⟩ ⟨_, rfl, rfl⟩ (by decide) hM7 (m := bs.length) (ys := bytesOf bs) (y := .slice A1 bs.length c1) ⟨by simp [bytesOf], .inl ⟨_, _, rfl, e1.mono hM7.ext⟩⟩ (hone_bytes bs) (by show 2 * (p2.length + bs.length) * 1 ≤ _; omega) fun s8 F8 hM8 hk8 => ?_
            have hU8 := hk8 _ _ hU7 (hM7.own.blk_ne hU7 u8_event)
            have hG8 := hk8 _ _ hG hgb
            refine ⟨only_ext (by rw [hU6, hU8]), ?_⟩
            (conv => whnf)
            refine append_mine tab_ok rfl rfl rfl rfl rfl ⟨_, rfl, fun k h => by cases h⟩ ⟨_, rfl, rfl⟩ (by decide) hM8 (m := 1) (ys := bytesOf [y1]) (y := .slice (some ⟨g, 0, none⟩) 1 1) ⟨rfl, .inl ⟨_, _, rfl, row1 hG8⟩⟩ (hone_bytes _) (by show 2 * (p2.length + bs.length + 1) * 1 ≤ _; omega) fun s9 F9 hM9 hk9 => ?_
            have hU9 := hk9 _ _ hU8 (hM8.own.blk_ne hU8 u8_event)
            refine ⟨only_ext (by rw [hU6, hU9]), ?_⟩
            have hMM : Mine F F9 s9 5 1 (p2 ++ bs ++ [y1]).length (bytesOf (p2 ++ bs ++ [y1])) := by
              rw [List.length_append, List.length_append, bytes_app, bytes_app]; exact hM9
            (conv => whnf)
            exact hK _ _ ⟨s9, hMM, hU9, rfl, rfl, rfl, rfl⟩
        · rintro env' F7 ⟨s7, hM7, hU7, q0, q3, q4, q5⟩
          refine short [0, 3, 4, 5] [.slice (some ad) rs.length c, s7, .int .i64 (j : Int), .pointer (some ⟨u, 0, none⟩)] (by simp only [List.map_cons, List.map_nil, q0, q3, q4, q5]) fun ρ => ?_
          have l3 : (p2 ++ bs ++ [y1]).length = p2.length + bs.length + 1 := by rw [List.length_append, List.length_append]; rfl
          generalize p2 ++ bs ++ [y1] = p3 at hM7 hcb l3
          clear q0 q3 q4 q5
          (conv => whnf)
          refine loop_slots [0, 3, 4, 5, 6] (fun m3 vs F' => ∃ (i : Nat) (S : Value), i + m3 = ks.length ∧ vs = [.slice (some ad) rs.length c, S, .int .i64 (j : Int), .pointer (some ⟨u, 0, none⟩), .int .i64 (i : Int)] ∧ Mine F F' S 5 1 (putAllM 2 p3 (ks.take i)).length (bytesOf (putAllM 2 p3 (ks.take i))) ∧ F' u = some (evO k n (.slice A1 bs.length c1) (.slice B1 ks.length cc1))) ks.length ⟨0, s7, by omega, rfl, hM7, hU7⟩ ?_
          clear hM7 hU7
          rintro m3 vs F8 ρ ⟨i, S, him, rfl, hM8, hU8⟩
          (conv => whnf)
          refine load_blk hU8 rfl rfl ?_
          (conv => whnf)
          refine cond_split (fun h => ?_) (fun h => ?_)
          · have hi : i < ks.length := by have := of_decide_eq_true h; omega
            obtain ⟨kd, rfl⟩ := e2.some (by simp; omega)
            have hx : ks[i]? = some ks[i] := List.getElem?_eq_getElem hi
            have hst2 := putAllM_take 2 p3 ks i ks[i] hx
            have hlen := putAllM_len 2 (ks.take i) p3
            rw [List.length_take] at hlen
            obtain ⟨A8, c8, rfl, _, R8⟩ := hM8.own.row
            have hp := rputG 2 (.inr (.inl rfl)) (putAllM 2 p3 (ks.take i)) A8 c8 ks[i] F8 R8 (by omega)
            generalize putAllM 2 p3 (ks.take i) = cu at hst2 hlen hM8 hp R8
            (conv => whnf)
            refine load_blk hU8 rfl rfl ?_
            (conv => whnf)
            refine ⟨⟨by omega, by omega⟩, ?_⟩
            (conv => whnf)
            refine load_step (v := .int .i64 ks[i]) ?_ ?_
            · show F8.cell? (kd.add (Int.toNat (i : Int) * 1)) = _
              rw [Int.toNat_natCast, Nat.mul_one]
              exact (e2.mono hM8.ext).cell (by simp [hx])
            (conv => whnf)
            refine call_of hp ?_
            rintro s9 F9 hM9
            (conv => whnf)
            refine ⟨m3 - 1, by omega, i + 1, s9, by omega, ?_, ?_, hM9.ext _ _ hU8⟩
            · have hw : IntKind.i64.wrap ((i : Int) + 1) = ((i + 1 : Nat) : Int) := by rw [IntKind.wrap_i64]; omega
              rw [← hw]
              rfl
            · rw [hst2]; exact hM9.down hM8.ext
          · have hi : i = ks.length := by have := of_decide_eq_false h; omega
            subst hi
            rw [List.take_length, ← hcb, ← hst] at hM8
            (conv => whnf)
            refine ⟨mm - 1, by omega, j + 1, S, by omega, ?_, hM8⟩
            have hw : IntKind.i64.wrap ((j : Int) + 1) = ((j + 1 : Nat) : Int) := by rw [IntKind.wrap_i64]; omega
            rw [← hw]
            rfl
  · have hj : j = rs.length := by have := of_decide_eq_false h; omega
    subst hj
    rw [List.take_length] at hM
    (conv => whnf)
    exact hM
end Go.Proofs.Ytkahpaipciooiad.Al

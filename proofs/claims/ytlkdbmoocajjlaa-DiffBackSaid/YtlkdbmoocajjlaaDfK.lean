/- slices.Insert of one pair, over what is known of memory. -/
import Derived.Test.YtlkdbmoocajjlaaDfJ
namespace Go.Proofs.Ytlkdbmoocajjlaa.Al
open Go Go.Al Go.Proofs Go.RowKit
set_option maxHeartbeats 8000000
set_option maxRecDepth 100000
set_option linter.unusedVariables false
set_option linter.unusedSimpArgs false
theorem ins_len (rs : List PR) (i : Nat) (r : PR) (hi : i ≤ rs.length) : (rs.take i ++ r :: rs.drop i).length = rs.length + 1 := by
  rw [List.length_append, List.length_take, List.length_cons, List.length_drop]; omega
theorem ins_v (rs : List PR) (i : Nat) (r : PR) : prsV (rs.take i ++ r :: rs.drop i) = prsV (rs.take i) ++ ((prA r).toList ++ prsV (rs.drop i)) := by rw [prsV_append, prsV_cons]
theorem put_mid {cs a vs : List Value} {off : Nat} (h : cs.take off = a) (hl : off + vs.length ≤ cs.length) : putL cs off vs = a ++ (vs ++ cs.drop (off + vs.length)) := by rw [putL_eq _ _ _ hl, h]
theorem ins_grow {cs : List Value} {rs : List PR} {i : Nat} (r : PR) (hi : i ≤ rs.length) (h : cs.take (i * 2) = prsV (rs.take i)) (hl : (rs.length + 1) * 2 ≤ cs.length) :
    (putL (putL cs (i * 2) (prA r).toList) ((i + 1) * 2) (prsV (rs.drop i))).take ((rs.length + 1) * 2) = prsV (rs.take i ++ r :: rs.drop i) := by
  have l1 : (prA r).toList.length = 2 := rfl
  have l2 : (prsV (rs.take i)).length = i * 2 := by rw [prsV_len, List.length_take, Nat.min_eq_left hi]
  have l3 : (prsV (rs.drop i)).length = (rs.length - i) * 2 := by rw [prsV_len, List.length_drop]
  have e1 := put_mid (vs := (prA r).toList) h (by rw [l1]; omega)
  have t1 : (putL cs (i * 2) (prA r).toList).take ((i + 1) * 2) = prsV (rs.take i) ++ (prA r).toList := by
    rw [e1, ← List.append_assoc]
    exact List.take_left' (by rw [List.length_append, l2, l1]; omega)
  rw [put_mid t1 (by rw [length_putL, l3]; omega), ins_v]
  have key : ∀ (P A X R : List Value) (N : Nat), P.length + A.length + X.length = N → ((P ++ A) ++ (X ++ R)).take N = P ++ (A ++ X) := fun P A X R N hN => by
    have e : (P ++ A) ++ (X ++ R) = (P ++ (A ++ X)) ++ R := by simp only [List.append_assoc]
    rw [e]
    exact List.take_left' (by rw [List.length_append, List.length_append]; omega)
  exact key _ _ _ _ _ (by rw [l1, l2, l3]; omega)
theorem ins_place {cs : List Value} {rs : List PR} {i : Nat} (r : PR) (hi : i ≤ rs.length) (h : cs.take (i * 2) = prsV (rs.take i)) (hl : (rs.length + 1) * 2 ≤ cs.length) :
    (putL (putL cs ((i + 1) * 2) (prsV (rs.drop i))) (i * 2) (prA r).toList).take ((rs.length + 1) * 2) = prsV (rs.take i ++ r :: rs.drop i) := by
  have l1 : (prA r).toList.length = 2 := rfl
  have l2 : (prsV (rs.take i)).length = i * 2 := by rw [prsV_len, List.length_take, Nat.min_eq_left hi]
  have l3 : (prsV (rs.drop i)).length = (rs.length - i) * 2 := by rw [prsV_len, List.length_drop]
  have e1 : putL cs ((i + 1) * 2) (prsV (rs.drop i)) = cs.take ((i + 1) * 2) ++ (prsV (rs.drop i) ++ cs.drop ((i + 1) * 2 + (prsV (rs.drop i)).length)) := putL_eq _ _ _ (by rw [l3]; omega)
  have lt : (cs.take ((i + 1) * 2)).length = (i + 1) * 2 := by rw [List.length_take]; omega
  have t1 : (putL cs ((i + 1) * 2) (prsV (rs.drop i))).take (i * 2) = prsV (rs.take i) := by
    rw [e1, List.take_append_of_le_length (by rw [lt]; omega), List.take_take, Nat.min_eq_left (by omega), h]
  have t2 : (putL cs ((i + 1) * 2) (prsV (rs.drop i))).drop (i * 2 + 2) = prsV (rs.drop i) ++ cs.drop ((i + 1) * 2 + (prsV (rs.drop i)).length) := by
    rw [e1, show i * 2 + 2 = (i + 1) * 2 by omega]
    exact List.drop_left' lt
  rw [put_mid t1 (by rw [length_putL, l1]; omega), l1, t2, ins_v]
  have key : ∀ (P A X R : List Value) (N : Nat), P.length + A.length + X.length = N → (P ++ (A ++ (X ++ R))).take N = P ++ (A ++ X) := fun P A X R N hN => by
    have e : P ++ (A ++ (X ++ R)) = (P ++ (A ++ X)) ++ R := by simp only [List.append_assoc]
    rw [e]
    exact List.take_left' (by rw [List.length_append, List.length_append]; omega)
  exact key _ _ _ _ _ (by rw [l1, l2, l3]; omega)
theorem insert {F G : Heap} {S : Value} {rs : List PR} (h : OutP F G S rs) (i : Nat) (hi : i ≤ rs.length) (hl : rs.length ≤ 1000) (r : PR) (hr : PrG G r) (g : Nat) (hg : F g = some (.cells (prA r) 75)) (hgS : blk S ≠ some g) :
    FnK Try.prog 58 #[S, .int .i64 (i : Int), .slice (some ⟨g, 0, none⟩) 1 1] F (fun v F' => OutP F' G v (rs.take i ++ r :: rs.drop i)) := by
  obtain ⟨A, c, rfl, hc, hrow⟩ := h.own.row
  have hw1 : IntKind.i64.wrap ((rs.length : Int) + ((1 : Nat) : Int)) = ((rs.length + 1 : Nat) : Int) := wrap_succ (by omega)
  have hwi : IntKind.i64.wrap ((i : Int) + ((1 : Nat) : Int)) = ((i + 1 : Nat) : Int) := wrap_succ (by omega)
  have hok : ∀ x ∈ rs.take i ++ r :: rs.drop i, PrG G x := fun x hx => by
    rcases List.mem_append.1 hx with hx | hx
    · exact h.ok x (List.mem_of_mem_take hx)
    · rcases List.mem_cons.1 hx with rfl | hx
      · exact hr
      · exact h.ok x (List.mem_of_mem_drop hx)
  (refine fn_walk tab_ok Try.func58 rfl rfl rfl rfl ?_; (conv => whnf))
  ((conv => whnf); repeat (first | (apply load_at; (conv => lhs; whnf); (with_reducible assumption); rfl; (conv => whnf)) | (apply load_at; (conv => lhs; rw [add_plain, add_plain]); (with_reducible assumption); rfl; (conv => whnf)) | (apply loads_at; (conv => lhs; whnf); (with_reducible assumption); rfl; (conv => whnf)) | (refine ⟨⟨by omega, by omega⟩, ?_⟩; (conv => whnf))))
  refine cond_split (fun hn => ?_) (fun hn => ?_)
  · have hn : i = rs.length := by
      have hn : ((i : Int) == (rs.length : Int)) = true := hn
      have : (i : Int) = (rs.length : Int) := by simpa using hn
      omega
    ((conv => whnf); repeat (first | (apply load_at; (conv => lhs; whnf); (with_reducible assumption); rfl; (conv => whnf)) | (apply load_at; (conv => lhs; rw [add_plain, add_plain]); (with_reducible assumption); rfl; (conv => whnf)) | (apply loads_at; (conv => lhs; whnf); (with_reducible assumption); rfl; (conv => whnf)) | (refine ⟨⟨by omega, by omega⟩, ?_⟩; (conv => whnf))))
    refine append_own tab_ok (s := .slice A rs.length c) (n := rs.length) (xs := prsV rs) (m := 1) (ys := (prA r).toList) (y := .slice (some ⟨g, 0, none⟩) 1 1) rfl rfl rfl rfl rfl ⟨_, rfl, fun k h => by cases h⟩ ⟨_, rfl, rfl⟩ (by decide) h.own ⟨rfl, .inl ⟨_, _, rfl, row_blk hg⟩⟩ (pr_one _) (by show 2 * (rs.length + 1) * 48 ≤ _; omega) fun S1 F1 hO1 hK1 hf1 => ?_
    have hM := h.push hO1 hK1 hf1 hr
    ((conv => whnf); repeat (first | (apply load_at; (conv => lhs; whnf); (with_reducible assumption); rfl; (conv => whnf)) | (apply load_at; (conv => lhs; rw [add_plain, add_plain]); (with_reducible assumption); rfl; (conv => whnf)) | (apply loads_at; (conv => lhs; whnf); (with_reducible assumption); rfl; (conv => whnf)) | (refine ⟨⟨by omega, by omega⟩, ?_⟩; (conv => whnf))))
    rw [hn, List.take_length, List.drop_length]
    exact hM
  have hn : i < rs.length := by
    have hn : ((i : Int) == (rs.length : Int)) = false := hn
    have : ¬ (i : Int) = (rs.length : Int) := by simpa using hn
    omega
  refine short [0, 1, 2, 7, 8] [.slice A rs.length c, .int .i64 (i : Int), .slice (some ⟨g, 0, none⟩) 1 1, .int .i64 ((1 : Nat) : Int), .int .i64 (rs.length : Int)] rfl fun ρ => ?_
  obtain ⟨hlen, hown⟩ := h.own
  rcases hown with ⟨_, h0⟩ | ⟨b, c', cs, he, ⟨fz, hb, hfz⟩, hcs, hnc, htk⟩
  · omega
  injection he with he1 he2 he3
  subst he1; subst he3
  have hGb : G b = none := h.gS b rfl
  have hgb : g ≠ b := fun e => hgS (by rw [e]; rfl)
  have htki : cs.toList.take (i * 2) = prsV (rs.take i) := by
    have := congrArg (List.take (i * 2)) htk
    rw [List.take_take, Nat.min_eq_left (by omega), prsV_take rs i (by omega)] at this
    exact this
  have hcl : cs.toList.length = c * 2 := by rw [Array.length_toList]; exact hcs
  ((conv => whnf); repeat (first | (apply load_at; (conv => lhs; whnf); (with_reducible assumption); rfl; (conv => whnf)) | (apply load_at; (conv => lhs; rw [add_plain, add_plain]); (with_reducible assumption); rfl; (conv => whnf)) | (apply loads_at; (conv => lhs; whnf); (with_reducible assumption); rfl; (conv => whnf)) | (refine ⟨⟨by omega, by omega⟩, ?_⟩; (conv => whnf))))
  refine cond_split (fun hg1 => ?_) (fun hg1 => ?_)
  · have hg1 : c < rs.length + 1 := by
      have hg1 : decide (IntKind.i64.wrap ((rs.length : Int) + ((1 : Nat) : Int)) > (c : Int)) = true := hg1
      have := of_decide_eq_true hg1
      rw [hw1] at this
      omega
    have hw2 : IntKind.i64.wrap (IntKind.i64.wrap ((rs.length : Int) + ((1 : Nat) : Int)) - (i : Int)) = ((rs.length + 1 - i : Nat) : Int) := by
      rw [hw1, wrap_eq (by omega) (by omega)]; omega
    have hcut1 := row_cutP 0 i c hrow (by omega) (by omega)
    have hcut2 := row_cutP i (rs.length - i) c hrow (by omega) (by omega)
    rw [List.take_of_length_le (by rw [List.length_drop]; exact Nat.le_refl _)] at hcut2
    ((conv => whnf); repeat (first | (apply load_at; (conv => lhs; whnf); (with_reducible assumption); rfl; (conv => whnf)) | (apply load_at; (conv => lhs; rw [add_plain, add_plain]); (with_reducible assumption); rfl; (conv => whnf)) | (apply loads_at; (conv => lhs; whnf); (with_reducible assumption); rfl; (conv => whnf)) | (refine ⟨⟨by omega, by omega⟩, ?_⟩; (conv => whnf))))
    refine append_grow tab_ok (A := if c = 0 then some ⟨b, 0, none⟩ else (some ⟨b, 0, none⟩ : Option Addr).map (·.add (0 * 2))) (n := i) (c := c) (m := rs.length + 1 - i) rfl rfl ?hq rfl rfl ⟨_, rfl, rfl⟩ ⟨_, rfl, rfl⟩ (by decide) hcut1 (by rw [prsV_len, List.length_take, List.drop_zero, Nat.min_eq_left (by omega)]) (by omega) (by omega) (by decide) (by show 2 * (i + (rs.length + 1 - i)) * 48 ≤ _; omega) fun b' nc cs' hb' hnc' hcs' htk' => ?_
    case hq =>
      conv => lhs; whnf
      exact congrArg (Value.int .i64) hw2
    have hE := Ext.new hb' (.cells cs' 75)
    have hB' := Heap.put_same F b' (.cells cs' 75)
    have hgb' : g ≠ b' := fun e => by rw [e, hb'] at hg; cases hg
    have hne' : b ≠ b' := fun e => by rw [e, hb'] at hb; cases hb
    have hg2 := hE _ _ hg
    have hrow2 := hcut2.mono hE
    have hl' : cs'.toList.length = nc * 2 := by rw [Array.length_toList]; exact hcs'
    generalize F.put b' (.cells cs' 75) = F1 at hE hB' hg2 hrow2 ⊢
    ((conv => whnf); repeat (first | (apply load_at; (conv => lhs; whnf); (with_reducible assumption); rfl; (conv => whnf)) | (apply load_at; (conv => lhs; rw [add_plain, add_plain]); (with_reducible assumption); rfl; (conv => whnf)) | (apply loads_at; (conv => lhs; whnf); (with_reducible assumption); rfl; (conv => whnf)) | (refine ⟨⟨by omega, by omega⟩, ?_⟩; (conv => whnf))))
    refine copy_rows tab_ok (g := b') (off := i * 2) (dl := rs.length + 1 - i) (dc := nc - i) (N := 1) (m := 1) (c := 1) (A := some ⟨g, 0, none⟩) (ys := (prA r).toList) rfl ?hp rfl rfl rfl (row_blk hg2) rfl hB' (.inl (Nat.le_refl 0)) (by omega) (by rw [hcs']; show i * 2 + 1 * 2 ≤ nc * 2; omega) (pr_one r) ?_
    case hp =>
      conv => lhs; whnf
      exact slice_eq ((if_neg (show ¬ nc = i by omega)).trans (show some (Addr.add ⟨b', 0, none⟩ (i * 2)) = _ by rw [add_plain, Nat.zero_add])) (by show i + (rs.length + 1 - i) - i = _; omega) rfl
    have hE2 := hE.put hb' (.cells (putL cs'.toList (i * 2) (prA r).toList).toArray 75)
    have hB2 := Heap.put_same F1 b' (.cells (putL cs'.toList (i * 2) (prA r).toList).toArray 75)
    have hrow3 := hcut2.mono hE2
    generalize F1.put b' _ = F2 at hE2 hB2 hrow3 ⊢
    ((conv => whnf); repeat (first | (apply load_at; (conv => lhs; whnf); (with_reducible assumption); rfl; (conv => whnf)) | (apply load_at; (conv => lhs; rw [add_plain, add_plain]); (with_reducible assumption); rfl; (conv => whnf)) | (apply loads_at; (conv => lhs; whnf); (with_reducible assumption); rfl; (conv => whnf)) | (refine ⟨⟨by omega, by omega⟩, ?_⟩; (conv => whnf))))
    refine draw_walk tab_ok (by kernel_rfl) [0, 1, 2, 3, 4, 5, 6, 7, 8] (by kernel_rfl) ?_
    ((conv => whnf); repeat (first | (apply load_at; (conv => lhs; whnf); (with_reducible assumption); rfl; (conv => whnf)) | (apply load_at; (conv => lhs; rw [add_plain, add_plain]); (with_reducible assumption); rfl; (conv => whnf)) | (apply loads_at; (conv => lhs; whnf); (with_reducible assumption); rfl; (conv => whnf)) | (refine ⟨⟨by omega, by omega⟩, ?_⟩; (conv => whnf))))
    refine copy_rows tab_ok (g := b') (off := (i + 1) * 2) (dl := rs.length - i) (dc := nc - (i + 1)) (N := rs.length - i) (m := rs.length - i) (c := c - i) (A := if c = i then some ⟨b, 0, none⟩ else (some ⟨b, 0, none⟩ : Option Addr).map (·.add (i * 2))) (ys := prsV (rs.drop i)) rfl ?hp rfl rfl rfl hrow3 (by rw [prsV_len, List.length_drop]) hB2 (.inl (Nat.le_refl 0)) (by omega) (by rw [List.size_toArray, length_putL, hl']; show (i + 1) * 2 + (rs.length - i) * 2 ≤ nc * 2; omega) (prs_one _) ?_
    case hp =>
      conv => lhs; whnf
      rw [hwi]
      exact slice_eq ((if_neg (show ¬ nc = i + 1 by omega)).trans (show some (Addr.add ⟨b', 0, none⟩ ((i + 1) * 2)) = _ by rw [add_plain, Nat.zero_add])) (by show i + (rs.length + 1 - i) - (i + 1) = _; omega) rfl
    have hln := ins_len rs i r hi
    have hfin := ins_grow (cs := cs'.toList) r hi (by have := htk'; rw [List.drop_zero] at this; exact this) (by rw [hl']; omega)
    have hfinal : OutP (F2.put b' (.cells (putL (putL cs'.toList (i * 2) (prA r).toList).toArray.toList ((i + 1) * 2) (prsV (rs.drop i))).toArray 75)) G (.slice (some ⟨b', 0, none⟩) (i + (rs.length + 1 - i)) nc) (rs.take i ++ r :: rs.drop i) := by
      rw [show i + (rs.length + 1 - i) = (rs.take i ++ r :: rs.drop i).length by omega, List.toList_toArray]
      refine ⟨⟨prsV_len _, .inr ⟨b', nc, _, rfl, Live.put _ _ _ _, ?_, by omega, ?_⟩⟩, h.base.trans (hE2.put hb' _), fun k hk => ?_, hok⟩
      · rw [List.size_toArray, length_putL, length_putL, hl']
      · rw [List.toList_toArray, hln]
        exact hfin
      · obtain rfl := Option.some.inj hk
        exact h.base.none hb'
    ((conv => whnf); repeat (first | (apply load_at; (conv => lhs; whnf); (with_reducible assumption); rfl; (conv => whnf)) | (apply load_at; (conv => lhs; rw [add_plain, add_plain]); (with_reducible assumption); rfl; (conv => whnf)) | (apply loads_at; (conv => lhs; whnf); (with_reducible assumption); rfl; (conv => whnf)) | (refine ⟨⟨by omega, by omega⟩, ?_⟩; (conv => whnf))))
    exact hfinal
  have hg1 : rs.length + 1 ≤ c := by
    have hg1 : decide (IntKind.i64.wrap ((rs.length : Int) + ((1 : Nat) : Int)) > (c : Int)) = false := hg1
    have := of_decide_eq_false hg1
    rw [hw1] at this
    omega
  ((conv => whnf); repeat (first | (apply load_at; (conv => lhs; whnf); (with_reducible assumption); rfl; (conv => whnf)) | (apply load_at; (conv => lhs; rw [add_plain, add_plain]); (with_reducible assumption); rfl; (conv => whnf)) | (apply loads_at; (conv => lhs; whnf); (with_reducible assumption); rfl; (conv => whnf)) | (refine ⟨⟨by omega, by omega⟩, ?_⟩; (conv => whnf))))
  refine call_args (xs' := #[.slice (some ⟨g, 0, none⟩) 1 1, .slice (some ⟨b, (i + 1) * 2, none⟩) (rs.length - i) (c - (i + 1))]) ?he ?_
  case he =>
    refine congrArg (fun x => #[Value.slice (some ⟨g, 0, none⟩) 1 1, x]) (slice_eq (A' := some ⟨b, (i + 1) * 2, none⟩) (n' := rs.length - i) (c' := c - (i + 1)) ?_ ?_ ?_)
    · rw [hwi]
      refine (if_neg (show ¬ c - 0 = i + 1 by omega)).trans ?_
      rw [if_neg (show ¬ c = 0 by omega)]
      show some (Addr.add (Addr.add ⟨b, 0, none⟩ (0 * 2)) ((i + 1) * 2)) = _
      rw [add_plain, add_plain, Nat.zero_mul, Nat.zero_add]
    · rw [hw1, hwi]
      simp only [Int.toNat_natCast]
      omega
    · rw [hwi]
      rfl
  refine overlapsApart hg hb hgb (by rw [hcs]; omega) ?_
  refine short [0, 1, 2, 7, 8, 67] [.slice (some ⟨b, 0, none⟩) (rs.length + 1) c, .int .i64 (i : Int), .slice (some ⟨g, 0, none⟩) 1 1, .int .i64 ((1 : Nat) : Int), .int .i64 (rs.length : Int), .bool false] ?he2 fun ρ => ?_
  case he2 =>
    refine congrArg (fun x => [x, Value.int .i64 (i : Int), .slice (some ⟨g, 0, none⟩) 1 1, .int .i64 ((1 : Nat) : Int), .int .i64 (rs.length : Int), .bool false]) (slice_eq (A' := some ⟨b, 0, none⟩) (n' := rs.length + 1) (c' := c) ?_ ?_ ?_)
    · refine (if_neg (show ¬ c = 0 by omega)).trans ?_
      show some (Addr.add ⟨b, 0, none⟩ (0 * 2)) = _
      rw [add_plain, Nat.zero_mul]
    · rw [hw1]
      rfl
    · rfl
  ((conv => whnf); repeat (first | (apply load_at; (conv => lhs; whnf); (with_reducible assumption); rfl; (conv => whnf)) | (apply load_at; (conv => lhs; rw [add_plain, add_plain]); (with_reducible assumption); rfl; (conv => whnf)) | (apply loads_at; (conv => lhs; whnf); (with_reducible assumption); rfl; (conv => whnf)) | (refine ⟨⟨by omega, by omega⟩, ?_⟩; (conv => whnf))))
  refine draw_walk tab_ok (by kernel_rfl) [0, 1, 2, 3, 4, 5, 6, 7, 8] (by kernel_rfl) ?_
  ((conv => whnf); repeat (first | (apply load_at; (conv => lhs; whnf); (with_reducible assumption); rfl; (conv => whnf)) | (apply load_at; (conv => lhs; rw [add_plain, add_plain]); (with_reducible assumption); rfl; (conv => whnf)) | (apply loads_at; (conv => lhs; whnf); (with_reducible assumption); rfl; (conv => whnf)) | (refine ⟨⟨by omega, by omega⟩, ?_⟩; (conv => whnf))))
  have hdrop : (cs.toList.drop (i * 2)).take ((rs.length - i) * 2) = prsV (rs.drop i) := by
    have := congrArg (List.drop (i * 2)) htk
    rw [prsV_drop rs i hi, List.drop_take] at this
    rw [← this]
    congr 1
    omega
  have hrowi : RowAt F (some ⟨b, i * 2, none⟩) (prsV (rs.drop i)) := by
    have := (hrow.drop (i * 2))
    rw [prsV_drop rs i hi, add_plain, Nat.zero_add] at this
    exact this
  refine copy_rows tab_ok (g := b) (off := (i + 1) * 2) (dl := rs.length - i) (dc := c - (i + 1)) (N := rs.length - i) (m := rs.length + 1 - i) (c := c - i) (A := some ⟨b, i * 2, none⟩) (ys := prsV (rs.drop i)) rfl ?hp ?hq rfl rfl hrowi (by rw [prsV_len, List.length_drop]) hb hfz (by omega) (by rw [hcs]; show (i + 1) * 2 + (rs.length - i) * 2 ≤ c * 2; omega) (prs_one _) ?_
  case hp =>
    conv => lhs; whnf
    rw [hwi]
    exact slice_eq ((if_neg (show ¬ c = i + 1 by omega)).trans (show some (Addr.add ⟨b, 0, none⟩ ((i + 1) * 2)) = _ by rw [add_plain, Nat.zero_add])) (by show rs.length + 1 - (i + 1) = _; omega) rfl
  case hq =>
    conv => lhs; whnf
    exact slice_eq ((if_neg (show ¬ c = i by omega)).trans (show some (Addr.add ⟨b, 0, none⟩ (i * 2)) = _ by rw [add_plain, Nat.zero_add])) rfl rfl
  have hE1 : Ext G (F.put b (.cells (putL cs.toList ((i + 1) * 2) (prsV (rs.drop i))).toArray 75 fz)) := h.base.put hGb _
  have hB1 := Heap.put_same F b (.cells (putL cs.toList ((i + 1) * 2) (prsV (rs.drop i))).toArray 75 fz)
  have hg1' : F.put b (.cells (putL cs.toList ((i + 1) * 2) (prsV (rs.drop i))).toArray 75 fz) g = some (.cells (prA r) 75) := by rw [Heap.put_other _ _ hgb]; exact hg
  generalize F.put b _ = F1 at hE1 hB1 hg1' ⊢
  ((conv => whnf); repeat (first | (apply load_at; (conv => lhs; whnf); (with_reducible assumption); rfl; (conv => whnf)) | (apply load_at; (conv => lhs; rw [add_plain, add_plain]); (with_reducible assumption); rfl; (conv => whnf)) | (apply loads_at; (conv => lhs; whnf); (with_reducible assumption); rfl; (conv => whnf)) | (refine ⟨⟨by omega, by omega⟩, ?_⟩; (conv => whnf))))
  refine copy_rows tab_ok (g := b) (off := i * 2) (dl := rs.length + 1 - i) (dc := c - i) (N := 1) (m := 1) (c := 1) (A := some ⟨g, 0, none⟩) (ys := (prA r).toList) rfl ?hp2 rfl rfl rfl (row_blk hg1') rfl hB1 (hfz.imp id fun h => by rw [List.size_toArray, length_putL, hcl]; omega) (by omega) (by rw [List.size_toArray, length_putL, hcl]; show i * 2 + 1 * 2 ≤ c * 2; omega) (pr_one r) ?_
  case hp2 =>
    conv => lhs; whnf
    exact slice_eq ((if_neg (show ¬ c = i by omega)).trans (show some (Addr.add ⟨b, 0, none⟩ (i * 2)) = _ by rw [add_plain, Nat.zero_add])) rfl rfl
  have hln := ins_len rs i r hi
  have hfin := ins_place (cs := cs.toList) r hi htki (by rw [hcl]; omega)
  have hfinal : OutP (F1.put b (.cells (putL (putL cs.toList ((i + 1) * 2) (prsV (rs.drop i))).toArray.toList (i * 2) (prA r).toList).toArray 75 fz)) G (.slice (some ⟨b, 0, none⟩) (rs.length + 1) c) (rs.take i ++ r :: rs.drop i) := by
    rw [← hln, List.toList_toArray]
    refine ⟨⟨prsV_len _, .inr ⟨b, c, _, rfl, ⟨fz, Heap.put_same _ _ _, hfz.imp id fun h => ?_⟩, ?_, by omega, ?_⟩⟩, hE1.put hGb _, fun k hk => ?_, hok⟩
    · rw [List.size_toArray, length_putL, length_putL, hcl]; omega
    · rw [List.size_toArray, length_putL, length_putL, hcl]
    · rw [List.toList_toArray, hln]
      exact hfin
    · obtain rfl := Option.some.inj hk
      exact hGb
  ((conv => whnf); repeat (first | (apply load_at; (conv => lhs; whnf); (with_reducible assumption); rfl; (conv => whnf)) | (apply load_at; (conv => lhs; rw [add_plain, add_plain]); (with_reducible assumption); rfl; (conv => whnf)) | (apply loads_at; (conv => lhs; whnf); (with_reducible assumption); rfl; (conv => whnf)) | (refine ⟨⟨by omega, by omega⟩, ?_⟩; (conv => whnf))))
  exact hfinal
end Go.Proofs.Ytlkdbmoocajjlaa.Al

/- The law CmdBack holds of the program: proved over what is known of memory, each function by its contract. -/
import Derived.Test.YtkahpaipciooiacAlLawCmdBack
import Derived.Test.YtkahpaipciooiacCmdAwake2
namespace Go.Proofs.Ytkahpaipciooiac.AlCmdBack
open Go Go.Al Go.Proofs Go.RowKit Go.Proofs.Ytkahpaipciooiac.Al
set_option maxHeartbeats 8000000
set_option maxRecDepth 100000
set_option linter.unusedVariables false
set_option linter.unusedSimpArgs false
theorem law : LawK := by
  intro F xx w cs hK yy wy A' c' hc' hK'
  obtain ⟨r, rfl, hr, hra, hrl⟩ := cmd_open hK
  obtain ⟨b, rfl⟩ := bytes_of_wf wy.2
  have hr' : RowAt F A' (bytesOf b) := elems_bytes hK'
  have hwf : wfC r.c := cmd_wf hra hrl w.2.2.2.2.2.2.2.2.2.1 (fun q hq => (w.2.2.2.2.2.2.2.2.2.2.2.2.2 q hq).2.2.2)
  clear hK hK' w wy hra hrl
  rw [List.length_map] at hc'
  simp only [List.length_map]
  obtain ⟨⟨k, y, x, f, o, n, p, d, l, a, ab, nm, ls⟩, B, cc⟩ := r
  dsimp only at hr hwf
  have h1 := encode k y x f o n p d l a ab nm ls B cc
  have hlenE : (encB ⟨k, y, x, f, o, n, p, d, l, a, ab, nm, ls⟩).length ≤ 29 + nm.length + 14 * ls.length := by
    have := encL_len ls (encM ⟨k, y, x, f, o, n, p, d, l, a, ab, nm, ls⟩)
    have h2 := encM_len ⟨k, y, x, f, o, n, p, d, l, a, ab, nm, ls⟩
    unfold encB
    dsimp only at h2 ⊢
    omega
  have hbk : mayB ⟨k, y, x, f, o, n, p, d, l, a, ab, nm, ls⟩ = true → okD (encB ⟨k, y, x, f, o, n, p, d, l, a, ab, nm, ls⟩) = true ∧ cmdOf (encB ⟨k, y, x, f, o, n, p, d, l, a, ab, nm, ls⟩) = ⟨k, y, x, f, o, n, p, d, l, a, ab, nm, ls⟩ := fun h => back _ h hwf
  have hDe := Go.Proofs.Ytkahpaipciooiac.Al.decode (encB ⟨k, y, x, f, o, n, p, d, l, a, ab, nm, ls⟩)
  generalize mayB ⟨k, y, x, f, o, n, p, d, l, a, ab, nm, ls⟩ = mb at h1 hbk
  generalize encB ⟨k, y, x, f, o, n, p, d, l, a, ab, nm, ls⟩ = eb at h1 hbk hDe hlenE
  have h5 := Go.Proofs.Ytkahpaipciooiac.Al.decode b A' c'
  obtain ⟨_, hgood⟩ := both b
  have hcl : (cmdOf b).ls.length ≤ 255 := lnOf_len b
  have hcn : (cmdOf b).nm.length ≤ b.length := by
    show (txV b (pos b 12) (tn b)).length ≤ b.length
    unfold txV
    split
    · rw [List.length_take, List.length_drop]; omega
    · exact Nat.zero_le _
  have hf1 : few ⟨⟨k, y, x, f, o, n, p, d, l, a, ab, nm, ls⟩, B, cc⟩ = true → nm.length ≤ 100 ∧ ls.length ≤ 20 := fun h => by
    unfold few at h
    rw [Bool.and_eq_true, decide_eq_true_eq, decide_eq_true_eq] at h
    exact h
  have hfew : List.all [(⟨⟨k, y, x, f, o, n, p, d, l, a, ab, nm, ls⟩, B, cc⟩ : CR)] few = few ⟨⟨k, y, x, f, o, n, p, d, l, a, ab, nm, ls⟩, B, cc⟩ := by simp
  have hcm := fun A c G hg => cmds [(⟨⟨k, y, x, f, o, n, p, d, l, a, ab, nm, ls⟩, B, cc⟩ : CR)] A c 1 G hg (by simp) (by decide)
  rw [hfew] at hcm
  generalize few ⟨⟨k, y, x, f, o, n, p, d, l, a, ab, nm, ls⟩, B, cc⟩ = z1 at hcm hf1
  have h3 := fun (h1 : ls.length ≤ 20) B' cc' G hx hy => same k y x f o n p d l a ab nm ls k y x f o n p d l a ab nm ls B B' cc cc' G hx hy (by omega) (by omega)
  change FnK _ _ #[.agg (cmdC k y x f o n p d l a ab ⟨nm.toArray⟩ (.slice B ls.length cc)), .slice A' b.length c'] _ _
  (refine fn_walk tab_ok Try.func8 rfl rfl rfl rfl ?_; (conv => whnf))
  refine new_step (cmdO k y x f o n p d l a ab ⟨nm.toArray⟩ (.slice B ls.length cc)) rfl fun bb hbb => ?_
  have hE := Ext.new hbb (cmdO k y x f o n p d l a ab ⟨nm.toArray⟩ (.slice B ls.length cc))
  have hC := Heap.put_same F bb (cmdO k y x f o n p d l a ab ⟨nm.toArray⟩ (.slice B ls.length cc))
  generalize F.put bb _ = F2 at hE hC ⊢
  have out : ∀ F', Ext F F' → FnK Try.prog 19 #[] F' (fun v F' => v = .bool true ∧ Ext F F') := fun F' hF' => (awake F').mono fun v G h => ⟨h.1, hF'.trans h.2⟩
  (conv => whnf)
  refine ⟨⟨_, _, _, hC, rfl, Nat.le_refl 13, ?_⟩⟩
  (conv => whnf)
  refine new_step (.cells (rowsV [(⟨⟨k, y, x, f, o, n, p, d, l, a, ab, nm, ls⟩, B, cc⟩ : CR)]).toArray 38) ?_ fun g hg => ?_
  · refine congrArg (fun l => Obj.cells (List.toArray l) 38) ?_
    exact fill1 _ (cmdC k y x f o n p d l a ab ⟨nm.toArray⟩ (.slice B ls.length cc)).toList rfl rfl
  have hXg := Ext.new hg (.cells (rowsV [(⟨⟨k, y, x, f, o, n, p, d, l, a, ab, nm, ls⟩, B, cc⟩ : CR)]).toArray 38)
  have hG := Heap.put_same F2 g (.cells (rowsV [(⟨⟨k, y, x, f, o, n, p, d, l, a, ab, nm, ls⟩, B, cc⟩ : CR)]).toArray 38)
  generalize F2.put g _ = F3 at hXg hG ⊢
  have hrow : RowAt F3 (some ⟨g, 0, none⟩) (rowsV [(⟨⟨k, y, x, f, o, n, p, d, l, a, ab, nm, ls⟩, B, cc⟩ : CR)]) := fun j v hj => ⟨_, rfl, by
    rw [add_plain, Heap.cell_at hG, Nat.zero_add, ← Array.getElem?_toList]
    exact hj⟩
  replace hC := hXg _ _ hC
  replace hE := hE.trans hXg
  (conv => whnf)
  refine call_of (hcm (some ⟨g, 0, none⟩) 1 F3 hrow) ?_
  rintro v F4 ⟨rfl, hE4⟩
  replace hC := hE4 _ _ hC
  replace hE := hE.trans hE4
  clear hG hrow hXg hE4
  refine short [1, 2, 15] [.slice A' b.length c', .pointer (some ⟨bb, 0, none⟩), .bool z1] rfl fun ρ => ?_
  cases z1 with
  | false =>
    (conv => whnf)
    refine call_of (out _ hE) ?_
    rintro v F9 ⟨rfl, hF9⟩
    (conv => whnf)
    exact ⟨rfl, hF9⟩
  | true =>
  obtain ⟨n1, l1⟩ := hf1 rfl
  (conv => whnf)
  refine cond_split (fun h => ?_) (fun h => ?_)
  · (conv => whnf)
    refine call_of (out _ hE) ?_
    rintro v F9 ⟨rfl, hF9⟩
    (conv => whnf)
    exact ⟨rfl, hF9⟩
  have hb : b.length ≤ 2000 := by
    have h : decide ((b.length : Int) > 2000) = false := h
    have := of_decide_eq_false h
    omega
  clear h
  (conv => whnf)
  refine ⟨⟨_, _, _, hC, rfl, Nat.le_refl 13, ?_⟩⟩
  (conv => whnf)
  refine call_of (h1 F4 (hr.mono hE) (by omega) (by omega)) ?_
  rintro v F3 ⟨⟨r1, rfl, O, oc, rfl, hoc, hO⟩, hE3⟩
  have hC3 := hE3 _ _ hC
  replace hE3 := hE.trans hE3
  cases mb with
  | true =>
    obtain ⟨hok, hcmd⟩ := hbk rfl
    simp only [hok, if_true, hcmd, Dec] at hDe
    change RowAt F3 O (bytesOf eb) at hO
    change eb.length ≤ oc at hoc
    (conv => whnf)
    refine call_of (hDe O oc F3 hO (by omega) hoc) ?_
    rintro v F4 ⟨⟨B2, cc2, rfl, hB2⟩, hE4⟩
    have hC4 := hE4 _ _ hC3
    replace hE4 := hE3.trans hE4
    (conv => whnf)
    refine new_step (cmdO 0 0 0 0 0 0 0 0 0 0 false .empty (.slice none 0 0)) rfl fun u hu => ?_
    have hZu := Heap.put_same F4 u (cmdO 0 0 0 0 0 0 0 0 0 0 false .empty (.slice none 0 0))
    have hXu : ∀ o, Ext F4 ((F4.put u (cmdO 0 0 0 0 0 0 0 0 0 0 false .empty (.slice none 0 0))).put u o) := fun o => ext_put_put hu
    generalize F4.put u _ = F5 at hZu hXu ⊢
    (conv => whnf)
    refine store_step u 0 _ (cmdC k y x f o n p d l a ab ⟨nm.toArray⟩ (.slice B2 ls.length cc2)) rfl hZu rfl rfl (.inl (Nat.le_refl 0)) (one13 k y x f o n p d l a ab ⟨nm.toArray⟩ B2 ls.length cc2) ?_
    replace hXu := hXu (cmdO k y x f o n p d l a ab ⟨nm.toArray⟩ (.slice B2 ls.length cc2))
    have hMu := Heap.put_same F5 u (cmdO k y x f o n p d l a ab ⟨nm.toArray⟩ (.slice B2 ls.length cc2))
    generalize F5.put u _ = F6 at hXu hMu ⊢
    have hE6 := hE4.trans hXu
    have hC6 := hXu _ _ hC4
    replace hB2 := hB2.mono hXu
    refine short [1, 2, 7, 34] [.slice A' b.length c', .pointer (some ⟨bb, 0, none⟩), .pointer (some ⟨u, 0, none⟩), .int .i64 0] rfl fun ρ => ?_
    (conv => whnf)
    refine ⟨⟨_, _, _, hC6, rfl, Nat.le_refl 13, ?_⟩⟩
    (conv => whnf)
    refine ⟨⟨_, _, _, hMu, rfl, Nat.le_refl 13, ?_⟩⟩
    (conv => whnf)
    refine call_of (h3 l1 B2 cc2 F6 (hr.mono hE6) hB2) ?_
    rintro v F3 ⟨⟨z, rfl, hz⟩, hE7⟩
    obtain rfl : z = true := hz.2 rfl
    replace hE3 := hE6.trans hE7
    (conv => whnf)
    clear hDe hbk h1 h3 hC3 hC
    cases hok : okD b with
    | false =>
      simp only [hok, Bool.false_eq_true, if_false, Dec] at h5
      refine call_of (h5 F3 (hr'.mono hE3) (by omega) hc') ?_
      rintro v F4 ⟨⟨B3, cc3, rfl, hB3⟩, hE4⟩
      replace hE4 := hE3.trans hE4
      (conv => whnf)
      refine new_step (cmdO 0 0 0 0 0 0 0 0 0 0 false .empty (.slice none 0 0)) rfl fun q hq => ?_
      have hZq := Heap.put_same F4 q (cmdO 0 0 0 0 0 0 0 0 0 0 false .empty (.slice none 0 0))
      have hXq : ∀ o, Ext F4 ((F4.put q (cmdO 0 0 0 0 0 0 0 0 0 0 false .empty (.slice none 0 0))).put q o) := fun o => ext_put_put hq
      generalize F4.put q _ = F5 at hZq hXq ⊢
      (conv => whnf)
      refine store_step q 0 _ (cmdC 0 0 0 0 0 0 0 0 0 0 false ⟨([] : List UInt8).toArray⟩ (.slice B3 0 cc3)) rfl hZq rfl rfl (.inl (Nat.le_refl 0)) (one13 0 0 0 0 0 0 0 0 0 0 false ⟨([] : List UInt8).toArray⟩ B3 0 cc3) ?_
      replace hXq := hXq (cmdO 0 0 0 0 0 0 0 0 0 0 false ⟨([] : List UInt8).toArray⟩ (.slice B3 0 cc3))
      have hMq := Heap.put_same F5 q (cmdO 0 0 0 0 0 0 0 0 0 0 false ⟨([] : List UInt8).toArray⟩ (.slice B3 0 cc3))
      generalize F5.put q _ = F6 at hXq hMq ⊢
      have hE6 := hE4.trans hXq
      replace hB3 := hB3.mono hXq
      refine short [1, 9, 47] [.slice A' b.length c', .pointer (some ⟨q, 0, none⟩), .int .i64 14] rfl fun ρ => ?_
      (conv => whnf)
      refine ⟨⟨_, _, _, hMq, rfl, Nat.le_refl 13, ?_⟩⟩
      (conv => whnf)
      refine call_of (same 0 0 0 0 0 0 0 0 0 0 false [] [] 0 0 0 0 0 0 0 0 0 0 false [] [] B3 none cc3 0 F6 (RowAt.nil _ _) (RowAt.nil _ _) (by decide) (by decide)) ?_
      rintro v F7 ⟨⟨z, rfl, hz⟩, hE7⟩
      obtain rfl : z = true := hz.2 rfl
      replace hE7 := hE6.trans hE7
      (conv => whnf)
      refine call_of (out F7 hE7) ?_
      rintro v F9 ⟨rfl, hF9⟩
      (conv => whnf)
      exact ⟨rfl, hF9⟩
    | true =>
      obtain ⟨_, hmy2, hpg⟩ := hgood hok
      simp only [hok, if_true, Dec] at h5
      have h6 := fun (B : Option Addr) (cc : Nat) (G : Heap) (hg : RowAt G B (linesV (cmdOf b).ls)) => encode (cmdOf b).k (cmdOf b).y (cmdOf b).x (cmdOf b).f (cmdOf b).o (cmdOf b).n (cmdOf b).p (cmdOf b).d (cmdOf b).l (cmdOf b).a (cmdOf b).ab (cmdOf b).nm (cmdOf b).ls B cc G hg (by omega) (by omega)
      change ∀ B cc G, _ → FnK _ _ _ G (fun v F' => (∃ r, v = .tuple #[r, .int .i64 (if mayB (cmdOf b) then 0 else 1)] ∧ Bs F' r (if mayB (cmdOf b) then encB (cmdOf b) else [])) ∧ Ext G F') at h6
      simp only [hmy2, if_true, hpg] at h6
      have hbe := fun B3 c3 G hx hy => bytesEqual b b B3 A' c3 c' G hx hy
      rw [beq_self_eq_true] at hbe
      generalize cmdOf b = m at h5 h6 hcl hcn
      obtain ⟨v0, v1, v2, v3, v4, v5, v6, v7, v8, v9, vb, vn, vs⟩ := m
      dsimp only at h5 h6 hcl hcn
      refine call_of (h5 F3 (hr'.mono hE3) (by omega) hc') ?_
      rintro v F4 ⟨⟨B3, cc3, rfl, hB3⟩, hE4⟩
      replace hE4 := hE3.trans hE4
      (conv => whnf)
      refine new_step (cmdO 0 0 0 0 0 0 0 0 0 0 false .empty (.slice none 0 0)) rfl fun q hq => ?_
      have hZq := Heap.put_same F4 q (cmdO 0 0 0 0 0 0 0 0 0 0 false .empty (.slice none 0 0))
      have hXq : ∀ o, Ext F4 ((F4.put q (cmdO 0 0 0 0 0 0 0 0 0 0 false .empty (.slice none 0 0))).put q o) := fun o => ext_put_put hq
      generalize F4.put q _ = F5 at hZq hXq ⊢
      (conv => whnf)
      refine store_step q 0 _ (cmdC v0 v1 v2 v3 v4 v5 v6 v7 v8 v9 vb ⟨vn.toArray⟩ (.slice B3 vs.length cc3)) rfl hZq rfl rfl (.inl (Nat.le_refl 0)) (one13 v0 v1 v2 v3 v4 v5 v6 v7 v8 v9 vb ⟨vn.toArray⟩ B3 vs.length cc3) ?_
      replace hXq := hXq (cmdO v0 v1 v2 v3 v4 v5 v6 v7 v8 v9 vb ⟨vn.toArray⟩ (.slice B3 vs.length cc3))
      have hMq := Heap.put_same F5 q (cmdO v0 v1 v2 v3 v4 v5 v6 v7 v8 v9 vb ⟨vn.toArray⟩ (.slice B3 vs.length cc3))
      generalize F5.put q _ = F6 at hXq hMq ⊢
      have hE6 := hE4.trans hXq
      replace hB3 := hB3.mono hXq
      refine short [1, 9, 47] [.slice A' b.length c', .pointer (some ⟨q, 0, none⟩), .int .i64 0] rfl fun ρ => ?_
      (conv => whnf)
      refine ⟨⟨_, _, _, hMq, rfl, Nat.le_refl 13, ?_⟩⟩
      (conv => whnf)
      refine call_of (h6 B3 cc3 F6 hB3) ?_
      rintro v F7 ⟨⟨r2, rfl, B4, c4, rfl, hc4, hB4⟩, hE7⟩
      replace hE7 := hE6.trans hE7
      (conv => whnf)
      refine call_of (hbe B4 c4 F7 hB4 (hr'.mono hE7)) ?_
      rintro v F7 ⟨rfl, rfl⟩
      (conv => whnf)
      refine call_of (out F7 hE7) ?_
      rintro v F9 ⟨rfl, hF9⟩
      (conv => whnf)
      exact ⟨rfl, hF9⟩
  | false =>
    (conv => whnf)
    clear hDe hbk h1 h3 hC3 hC
    cases hok : okD b with
    | false =>
      simp only [hok, Bool.false_eq_true, if_false, Dec] at h5
      refine call_of (h5 F3 (hr'.mono hE3) (by omega) hc') ?_
      rintro v F4 ⟨⟨B3, cc3, rfl, hB3⟩, hE4⟩
      replace hE4 := hE3.trans hE4
      (conv => whnf)
      refine new_step (cmdO 0 0 0 0 0 0 0 0 0 0 false .empty (.slice none 0 0)) rfl fun q hq => ?_
      have hZq := Heap.put_same F4 q (cmdO 0 0 0 0 0 0 0 0 0 0 false .empty (.slice none 0 0))
      have hXq : ∀ o, Ext F4 ((F4.put q (cmdO 0 0 0 0 0 0 0 0 0 0 false .empty (.slice none 0 0))).put q o) := fun o => ext_put_put hq
      generalize F4.put q _ = F5 at hZq hXq ⊢
      (conv => whnf)
      refine store_step q 0 _ (cmdC 0 0 0 0 0 0 0 0 0 0 false ⟨([] : List UInt8).toArray⟩ (.slice B3 0 cc3)) rfl hZq rfl rfl (.inl (Nat.le_refl 0)) (one13 0 0 0 0 0 0 0 0 0 0 false ⟨([] : List UInt8).toArray⟩ B3 0 cc3) ?_
      replace hXq := hXq (cmdO 0 0 0 0 0 0 0 0 0 0 false ⟨([] : List UInt8).toArray⟩ (.slice B3 0 cc3))
      have hMq := Heap.put_same F5 q (cmdO 0 0 0 0 0 0 0 0 0 0 false ⟨([] : List UInt8).toArray⟩ (.slice B3 0 cc3))
      generalize F5.put q _ = F6 at hXq hMq ⊢
      have hE6 := hE4.trans hXq
      replace hB3 := hB3.mono hXq
      refine short [1, 9, 47] [.slice A' b.length c', .pointer (some ⟨q, 0, none⟩), .int .i64 14] rfl fun ρ => ?_
      (conv => whnf)
      refine ⟨⟨_, _, _, hMq, rfl, Nat.le_refl 13, ?_⟩⟩
      (conv => whnf)
      refine call_of (same 0 0 0 0 0 0 0 0 0 0 false [] [] 0 0 0 0 0 0 0 0 0 0 false [] [] B3 none cc3 0 F6 (RowAt.nil _ _) (RowAt.nil _ _) (by decide) (by decide)) ?_
      rintro v F7 ⟨⟨z, rfl, hz⟩, hE7⟩
      obtain rfl : z = true := hz.2 rfl
      replace hE7 := hE6.trans hE7
      (conv => whnf)
      refine call_of (out F7 hE7) ?_
      rintro v F9 ⟨rfl, hF9⟩
      (conv => whnf)
      exact ⟨rfl, hF9⟩
    | true =>
      obtain ⟨_, hmy2, hpg⟩ := hgood hok
      simp only [hok, if_true, Dec] at h5
      have h6 := fun (B : Option Addr) (cc : Nat) (G : Heap) (hg : RowAt G B (linesV (cmdOf b).ls)) => encode (cmdOf b).k (cmdOf b).y (cmdOf b).x (cmdOf b).f (cmdOf b).o (cmdOf b).n (cmdOf b).p (cmdOf b).d (cmdOf b).l (cmdOf b).a (cmdOf b).ab (cmdOf b).nm (cmdOf b).ls B cc G hg (by omega) (by omega)
      change ∀ B cc G, _ → FnK _ _ _ G (fun v F' => (∃ r, v = .tuple #[r, .int .i64 (if mayB (cmdOf b) then 0 else 1)] ∧ Bs F' r (if mayB (cmdOf b) then encB (cmdOf b) else [])) ∧ Ext G F') at h6
      simp only [hmy2, if_true, hpg] at h6
      have hbe := fun B3 c3 G hx hy => bytesEqual b b B3 A' c3 c' G hx hy
      rw [beq_self_eq_true] at hbe
      generalize cmdOf b = m at h5 h6 hcl hcn
      obtain ⟨v0, v1, v2, v3, v4, v5, v6, v7, v8, v9, vb, vn, vs⟩ := m
      dsimp only at h5 h6 hcl hcn
      refine call_of (h5 F3 (hr'.mono hE3) (by omega) hc') ?_
      rintro v F4 ⟨⟨B3, cc3, rfl, hB3⟩, hE4⟩
      replace hE4 := hE3.trans hE4
      (conv => whnf)
      refine new_step (cmdO 0 0 0 0 0 0 0 0 0 0 false .empty (.slice none 0 0)) rfl fun q hq => ?_
      have hZq := Heap.put_same F4 q (cmdO 0 0 0 0 0 0 0 0 0 0 false .empty (.slice none 0 0))
      have hXq : ∀ o, Ext F4 ((F4.put q (cmdO 0 0 0 0 0 0 0 0 0 0 false .empty (.slice none 0 0))).put q o) := fun o => ext_put_put hq
      generalize F4.put q _ = F5 at hZq hXq ⊢
      (conv => whnf)
      refine store_step q 0 _ (cmdC v0 v1 v2 v3 v4 v5 v6 v7 v8 v9 vb ⟨vn.toArray⟩ (.slice B3 vs.length cc3)) rfl hZq rfl rfl (.inl (Nat.le_refl 0)) (one13 v0 v1 v2 v3 v4 v5 v6 v7 v8 v9 vb ⟨vn.toArray⟩ B3 vs.length cc3) ?_
      replace hXq := hXq (cmdO v0 v1 v2 v3 v4 v5 v6 v7 v8 v9 vb ⟨vn.toArray⟩ (.slice B3 vs.length cc3))
      have hMq := Heap.put_same F5 q (cmdO v0 v1 v2 v3 v4 v5 v6 v7 v8 v9 vb ⟨vn.toArray⟩ (.slice B3 vs.length cc3))
      generalize F5.put q _ = F6 at hXq hMq ⊢
      have hE6 := hE4.trans hXq
      replace hB3 := hB3.mono hXq
      refine short [1, 9, 47] [.slice A' b.length c', .pointer (some ⟨q, 0, none⟩), .int .i64 0] rfl fun ρ => ?_
      (conv => whnf)
      refine ⟨⟨_, _, _, hMq, rfl, Nat.le_refl 13, ?_⟩⟩
      (conv => whnf)
      refine call_of (h6 B3 cc3 F6 hB3) ?_
      rintro v F7 ⟨⟨r2, rfl, B4, c4, rfl, hc4, hB4⟩, hE7⟩
      replace hE7 := hE6.trans hE7
      (conv => whnf)
      refine call_of (hbe B4 c4 F7 hB4 (hr'.mono hE7)) ?_
      rintro v F7 ⟨rfl, rfl⟩
      (conv => whnf)
      refine call_of (out F7 hE7) ?_
      rintro v F9 ⟨rfl, hF9⟩
      (conv => whnf)
      exact ⟨rfl, hF9⟩
end Go.Proofs.Ytkahpaipciooiac.AlCmdBack

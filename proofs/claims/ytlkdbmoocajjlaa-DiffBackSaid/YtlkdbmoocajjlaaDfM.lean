/- The differences' awake; exchequerplain.Bytes; pairs and rows of bytes as arguments. -/
import Derived.Test.YtlkdbmoocajjlaaDfL
namespace Go.Proofs.Ytlkdbmoocajjlaa.Al
open Go Go.Al Go.Proofs Go.RowKit
set_option maxHeartbeats 8000000
set_option maxRecDepth 100000
set_option linter.unusedVariables false
set_option linter.unusedSimpArgs false
abbrev prWf : List Int × List Int → Prop := (fun p => (fun xs => xs.length ≤ maxLen ∧ ∀ x ∈ xs, (fun n => (Lit.int .u8 n).wf = true) x) p.1 ∧ (fun xs => xs.length ≤ maxLen ∧ ∀ x ∈ xs, (fun n => (Lit.int .u8 n).wf = true) x) p.2)
abbrev prK : Kind (List Int × List Int) := kPair 1 (kSlice 1 (kInt .u8)) (kSlice 1 (kInt .u8))
theorem pr_open {F : Heap} {x : List Int × List Int} {cs : List Value} (w : prWf x) (h : prK F x cs) : ∃ r : PR, cs = (prA r).toList ∧ PrOk F r := by
  obtain ⟨k, v⟩ := x
  obtain ⟨c3, d3, rfl, _, ⟨A, c, rfl, hc, h1⟩, B, cc, rfl, hcc, h2⟩ := h
  obtain ⟨b1, rfl⟩ := bytes_of_wf w.1.2
  obtain ⟨b2, rfl⟩ := bytes_of_wf w.2.2
  refine ⟨⟨b1, A, c, b2, B, cc⟩, ?_, elems_bytes h1, elems_bytes h2, ?_, ?_⟩
  · simp [prA, prC]
  · simpa using hc
  · simpa using hcc
theorem prs_open {F : Heap} {A : Option Addr} {xs : List (List Int × List Int)} (w : ∀ x ∈ xs, prWf x) (h : Elems F A 2 prK xs) : ∃ rs : List PR, rs.length = xs.length ∧ RowAt F A (prsV rs) ∧ ∀ r ∈ rs, PrOk F r := by
  have hex : ∀ j (hj : j < xs.length), ∃ r : PR, PrOk F r ∧ ∃ a, A = some a ∧ ∀ q u, (prA r).toList[q]? = some u → F.cell? (a.add (j * 2 + q)) = some u := by
    intro j hj
    obtain ⟨a, c, h1, h2, h3, h4⟩ := h j _ (List.getElem?_eq_getElem hj)
    obtain ⟨r, rfl, hr⟩ := pr_open (w _ (List.getElem_mem hj)) h3
    exact ⟨r, hr, a, h1, h4⟩
  have key : ∀ n, n ≤ xs.length → ∃ rs : List PR, rs.length = n ∧ ∀ j r, rs[j]? = some r → PrOk F r ∧ ∃ a, A = some a ∧ ∀ q u, (prA r).toList[q]? = some u → F.cell? (a.add (j * 2 + q)) = some u := by
    intro n
    induction n with
    | zero => intro _; exact ⟨[], rfl, fun j r h => by simp at h⟩
    | succ n ih =>
      intro hn
      obtain ⟨rs, hl, hp⟩ := ih (by omega)
      obtain ⟨r, hr⟩ := hex n (by omega)
      refine ⟨rs ++ [r], by simp [hl], fun j q hq => ?_⟩
      by_cases hj : j < rs.length
      · rw [List.getElem?_append_left hj] at hq
        exact hp j q hq
      · rw [List.getElem?_append_right (by omega)] at hq
        have hj0 : j - rs.length = 0 := by
          have := (List.getElem?_eq_some_iff.1 hq).1
          simp at this; omega
        rw [hj0] at hq
        obtain rfl : r = q := by simpa using hq
        obtain rfl : j = n := by omega
        exact hr
  obtain ⟨rs, hl, hp⟩ := key xs.length (Nat.le_refl _)
  refine ⟨rs, hl, ?_, fun r hr => ?_⟩
  · intro j v hj
    have hlt : j < (prsV rs).length := (List.getElem?_eq_some_iff.1 hj).1
    rw [prsV_len] at hlt
    have hq : j / 2 < rs.length := by omega
    have hx := List.getElem?_eq_getElem hq
    obtain ⟨_, a, h1, h2⟩ := hp _ _ hx
    refine ⟨a, h1, ?_⟩
    have hat := prsV_at _ _ _ hx
    have := h2 (j % 2) v (by rw [← hat, List.getElem?_take, if_pos (by omega), List.getElem?_drop, show j / 2 * 2 + j % 2 = j by omega]; exact hj)
    rwa [show j / 2 * 2 + j % 2 = j by omega] at this
  · obtain ⟨j, hj, rfl⟩ := List.getElem_of_mem hr
    exact (hp j _ (List.getElem?_eq_getElem hj)).1
abbrev brK : Kind (List Int) := kSlice 1 (kInt .u8)
theorem brs_open {F : Heap} {A : Option Addr} {xs : List (List Int)} (w : ∀ x ∈ xs, (fun xs : List Int => xs.length ≤ maxLen ∧ ∀ x ∈ xs, (fun n => (Lit.int .u8 n).wf = true) x) x) (h : Elems F A 1 brK xs) : ∃ ds : List BR, ds.length = xs.length ∧ RowAt F A (bsV ds) ∧ ∀ d ∈ ds, RowAt F d.A (bytesOf d.k) := by
  obtain ⟨ds, h1, h2, h3⟩ := rowS_open (f := fun d => [brV d]) (z := 1) (Q := fun (d : BR) _ => RowAt F d.A (bytesOf d.k)) (fun _ => rfl) (by decide) w h (by
    rintro x c hw hK
    obtain ⟨A', cc, rfl, hc, hE⟩ := hK
    obtain ⟨l, rfl⟩ := bytes_of_wf hw.2
    exact ⟨⟨l, A', cc⟩, by show [Value.slice A' (l.map _).length cc] = [Value.slice A' l.length cc]; rw [List.length_map], elems_bytes hE⟩)
  refine ⟨ds, h1, ?_, fun r hr => ?_⟩
  · have e : rowS (fun d => [brV d]) ds = bsV ds := by
      unfold rowS bsV
      exact List.map_eq_flatMap.symm
    rw [← e]; exact h2
  · obtain ⟨j, hj, rfl⟩ := List.getElem_of_mem hr
    exact h3 j _ _ (List.getElem?_eq_getElem hj) (List.getElem?_eq_getElem (by omega))
theorem equalB (ds es : List BR) (A B : Option Addr) (c c' : Nat) (F : Heap) (hr : RowAt F A (bsV ds)) (hs : RowAt F B (bsV es)) (hor : ∀ r ∈ ds, RowAt F r.A (bytesOf r.k)) (hos : ∀ r ∈ es, RowAt F r.A (bytesOf r.k)) (hl : ds.length ≤ 100000) :
    FnK Try.prog 53 #[.slice A ds.length c, .slice B es.length c', .func (.func 37) #[] #[]] F (fun v F' => v = .bool (ds.map BR.k == es.map BR.k) ∧ F' = F) := by
  obtain ⟨res, hres⟩ : ∃ res, res = (ds.map BR.k == es.map BR.k) := ⟨_, rfl⟩
  rw [← hres]
  have no : ¬ ds.map BR.k = es.map BR.k → res = false := fun h => by rw [hres]; exact beq_eq_false_iff_ne.2 h
  have yes : ds.map BR.k = es.map BR.k → res = true := fun h => by rw [hres, h]; exact beq_self_eq_true _
  clear hres
  (refine fn_walk tab_ok Try.func53 rfl rfl rfl rfl ?_; (conv => whnf))
  refine cond_split (fun h => ?_) (fun h => ?_)
  · have h : ((ds.length : Int) != (es.length : Int)) = true := h
    have hne : ds.length ≠ es.length := fun e => by rw [e] at h; simp at h
    have hf := no fun e => hne (by have := congrArg List.length e; rwa [List.length_map, List.length_map] at this)
    (conv => whnf)
    exact ⟨congrArg Value.bool hf.symm, rfl⟩
  have hlen : ds.length = es.length := by
    have h : ((ds.length : Int) != (es.length : Int)) = false := h
    have := bne_eq_false_iff_eq.1 h
    omega
  (conv => whnf)
  refine loop_slots [1, 2, 15, 16, 17] (fun mm vs F' => ∃ j : Nat, j + mm = ds.length ∧ vs = [.slice B es.length c', .func (.func 37) #[] #[], .slice A ds.length c, .int .i64 (ds.length : Int), .int .i64 (j : Int)] ∧ (ds.take j).map BR.k = (es.take j).map BR.k ∧ F' = F) ds.length ⟨0, by omega, rfl, rfl, rfl⟩ ?_
  rintro mm vs F2 ρ ⟨j, hjm, rfl, heq, rfl⟩
  (conv => whnf)
  refine cond_split (fun h => ?_) (fun h => ?_)
  · have hj : j < ds.length := by have := of_decide_eq_true h; omega
    have hj' : j < es.length := by omega
    obtain ⟨ad, rfl⟩ := hr.some (by rw [bsV_len]; omega)
    obtain ⟨bd, rfl⟩ := hs.some (by rw [bsV_len]; omega)
    have hws : IntKind.i64.wrap ((j : Int) + 1) = ((j + 1 : Nat) : Int) := wrap_succ (by omega)
    have hx : ds[j]? = some ds[j] := List.getElem?_eq_getElem hj
    have hy : es[j]? = some es[j] := List.getElem?_eq_getElem hj'
    have c0 := bs_cell hr hx
    have c1 := bs_cell hs hy
    have g0 := hor ds[j] (List.getElem_mem hj)
    have g1 := hos es[j] (List.getElem_mem hj')
    have st : ds[j].k = es[j].k → (ds.take (j + 1)).map BR.k = (es.take (j + 1)).map BR.k := fun e => by
      rw [List.take_add_one, List.take_add_one, hx, hy, List.map_append, List.map_append, heq]
      simp [e]
    have nn : ¬ ds[j].k = es[j].k → ¬ ds.map BR.k = es.map BR.k := fun e e2 => e (by
      have := congrArg (fun l => l[j]?) e2
      simp only [List.getElem?_map, hx, hy, Option.map_some, Option.some.injEq] at this
      exact this)
    generalize ds[j] = d at c0 g0 st nn
    generalize es[j] = e at c1 g1 st nn
    obtain ⟨dk, da, dc⟩ := d
    obtain ⟨ek, ea, ec⟩ := e
    replace st : dk = ek → _ := st
    replace nn : ¬ dk = ek → _ := nn
    have hbe := bytesEqual dk ek da ea dc ec F2 g0 g1
    obtain ⟨z, hz⟩ : ∃ z, z = (dk == ek) := ⟨_, rfl⟩
    rw [← hz] at hbe
    ((conv => whnf); repeat (first | (apply load_at; (conv => lhs; whnf); (with_reducible assumption); rfl; (conv => whnf)) | (apply load_at; (conv => lhs; rw [add_plain, add_plain]); (with_reducible assumption); rfl; (conv => whnf)) | (apply loads_at; (conv => lhs; whnf); (with_reducible assumption); rfl; (conv => whnf)) | (refine ⟨⟨by omega, by omega⟩, ?_⟩; (conv => whnf))))
    refine load_step c0 ?_
    ((conv => whnf); repeat (first | (apply load_at; (conv => lhs; whnf); (with_reducible assumption); rfl; (conv => whnf)) | (apply load_at; (conv => lhs; rw [add_plain, add_plain]); (with_reducible assumption); rfl; (conv => whnf)) | (apply loads_at; (conv => lhs; whnf); (with_reducible assumption); rfl; (conv => whnf)) | (refine ⟨⟨by omega, by omega⟩, ?_⟩; (conv => whnf))))
    refine load_step c1 ?_
    ((conv => whnf); repeat (first | (apply load_at; (conv => lhs; whnf); (with_reducible assumption); rfl; (conv => whnf)) | (apply load_at; (conv => lhs; rw [add_plain, add_plain]); (with_reducible assumption); rfl; (conv => whnf)) | (apply loads_at; (conv => lhs; whnf); (with_reducible assumption); rfl; (conv => whnf)) | (refine ⟨⟨by omega, by omega⟩, ?_⟩; (conv => whnf))))
    refine call_of hbe ?_
    rintro v F3 ⟨rfl, rfl⟩
    cases z with
    | false =>
      have hf := no (nn (beq_eq_false_iff_ne.1 hz.symm))
      ((conv => whnf); repeat (first | (apply load_at; (conv => lhs; whnf); (with_reducible assumption); rfl; (conv => whnf)) | (apply load_at; (conv => lhs; rw [add_plain, add_plain]); (with_reducible assumption); rfl; (conv => whnf)) | (apply loads_at; (conv => lhs; whnf); (with_reducible assumption); rfl; (conv => whnf)) | (refine ⟨⟨by omega, by omega⟩, ?_⟩; (conv => whnf))))
      exact ⟨congrArg Value.bool hf.symm, rfl⟩
    | true =>
      have hst := st (beq_iff_eq.1 hz.symm)
      ((conv => whnf); repeat (first | (apply load_at; (conv => lhs; whnf); (with_reducible assumption); rfl; (conv => whnf)) | (apply load_at; (conv => lhs; rw [add_plain, add_plain]); (with_reducible assumption); rfl; (conv => whnf)) | (apply loads_at; (conv => lhs; whnf); (with_reducible assumption); rfl; (conv => whnf)) | (refine ⟨⟨by omega, by omega⟩, ?_⟩; (conv => whnf))))
      refine ⟨mm - 1, by omega, j + 1, by omega, ?_, hst, rfl⟩
      rw [← hws]
      rfl
  · have hj : j = ds.length := by have := of_decide_eq_false h; omega
    subst hj
    rw [List.take_length, hlen, List.take_length] at heq
    have ht := yes heq
    (conv => whnf)
    exact ⟨congrArg Value.bool ht.symm, rfl⟩
theorem plainBytes (ds es : List BR) (A B : Option Addr) (c c' : Nat) (F : Heap) (hr : RowAt F A (bsV ds)) (hs : RowAt F B (bsV es)) (hor : ∀ r ∈ ds, RowAt F r.A (bytesOf r.k)) (hos : ∀ r ∈ es, RowAt F r.A (bytesOf r.k)) (hl : ds.length ≤ 100000) :
    FnK Try.prog 23 #[.slice A ds.length c, .slice B es.length c'] F (fun v F' => v = .bool (ds.map BR.k == es.map BR.k) ∧ F' = F) := by
  have he := equalB ds es A B c c' F hr hs hor hos hl
  generalize (ds.map BR.k == es.map BR.k) = z at he
  (refine fn_walk tab_ok Try.func23 rfl rfl rfl rfl ?_; (conv => whnf))
  refine call_of he ?_
  rintro v F1 ⟨rfl, rfl⟩
  (conv => whnf)
  exact ⟨rfl, rfl⟩
end Go.Proofs.Ytlkdbmoocajjlaa.Al

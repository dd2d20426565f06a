/- Rows of events; the contract of script.Put, over what is known of memory. -/
import Derived.Test.YtkahpaipciooiadScrD
namespace Go.Proofs.Ytkahpaipciooiad.Al
open Go Go.Al Go.Proofs Go.RowKit
set_option maxHeartbeats 8000000
set_option maxRecDepth 100000
set_option linter.unusedVariables false
set_option linter.unusedSimpArgs false
structure ER where
  e : ED
  A : Option Addr
  c : Nat
  B : Option Addr
  cc : Nat
def evA (r : ER) : Array Value := evC r.e.k r.e.n (.slice r.A r.e.bs.length r.c) (.slice r.B r.e.ks.length r.cc)
def evsV (rs : List ER) : List Value := rs.flatMap fun r => (evA r).toList
/-- What an event's slices hold. -/
def EvOk (F : Heap) (r : ER) : Prop := RowAt F r.A (bytesOf r.e.bs) ∧ RowAt F r.B (r.e.ks.map (.int .i64)) ∧ r.e.bs.length ≤ r.c
theorem EvOk.mono {F G : Heap} {r : ER} (h : EvOk F r) (hE : Ext F G) : EvOk G r := ⟨h.1.mono hE, h.2.1.mono hE, h.2.2⟩
theorem evsV_len (rs : List ER) : (evsV rs).length = rs.length * 4 := by
  induction rs with
  | nil => rfl
  | cons r rs ih =>
    unfold evsV at ih ⊢
    rw [List.flatMap_cons, List.length_append, ih, List.length_cons]
    show 4 + _ = _
    omega
theorem evsV_at : ∀ (rs : List ER) (j : Nat) (x : ER), rs[j]? = some x → ((evsV rs).drop (j * 4)).take 4 = (evA x).toList := by
  intro rs
  induction rs with
  | nil => intro j x h; simp at h
  | cons r rs ih =>
    intro j x h
    unfold evsV at ih ⊢
    rw [List.flatMap_cons]
    cases j with
    | zero =>
      obtain rfl : r = x := by simpa using h
      rfl
    | succ j =>
      rw [show (j + 1) * 4 = 4 + j * 4 by omega, ← List.drop_drop, List.drop_left' (by rfl)]
      exact ih j x (by simpa using h)
theorem ev_load {F : Heap} {ad : Addr} {rs : List ER} {j : Nat} {K : Value → Prop} (hr : RowAt F (some ad) (evsV rs)) (hj : j < rs.length) (hk : K (.agg (evA rs[j]))) : LoadsK F (ad.add (Int.toNat (j : Int) * 4)) 4 K := by
  have hx : rs[j]? = some rs[j] := List.getElem?_eq_getElem hj
  rw [Int.toNat_natCast]
  refine loads_row hr (by decide) (by rw [evsV_len]; omega) ?_
  rw [evsV_at rs j _ hx]
  exact hk
/-- Events' bytes. -/
def putS (es : List ED) : List UInt8 := (es.filter checkB).flatMap codeB
theorem putS_take {rs : List ER} {j : Nat} {r : ER} (h : rs[j]? = some r) : putS ((rs.take (j + 1)).map (·.e)) = putS ((rs.take j).map (·.e)) ++ (if checkB r.e then codeB r.e else []) := by
  unfold putS
  rw [List.take_add_one, h, Option.toList_some, List.map_append, List.filter_append, List.flatMap_append]
  congr 1
  show List.flatMap codeB (List.filter checkB [r.e]) = _
  rw [List.filter_cons]
  split
  · simp
  · rfl
theorem codeB_len (e : ED) : (codeB e).length ≤ 6 + e.bs.length + 2 * e.ks.length := by
  have h1 := headC_len e
  have h2 := putAllM_len 2 e.ks (headC e)
  unfold codeB
  omega
theorem putS_len (M : Nat) : ∀ (rs : List ER), (∀ r ∈ rs, r.e.bs.length ≤ 600 ∧ r.e.ks.length ≤ 200) → (putS (rs.map (·.e))).length ≤ 1006 * rs.length := by
  intro rs
  induction rs with
  | nil => intro _; exact Nat.zero_le _
  | cons r rs ih =>
    intro h
    have h1 := ih fun q hq => h q (by simp [hq])
    have h2 := h r (by simp)
    have h3 := codeB_len r.e
    have h4 : putS ((r :: rs).map (·.e)) = (if checkB r.e then codeB r.e else []) ++ putS (rs.map (·.e)) := by
      unfold putS
      rw [List.map_cons, List.filter_cons]
      split <;> simp
    rw [h4, List.length_append, List.length_cons]
    have h5 : (if checkB r.e then codeB r.e else []).length ≤ 1006 := by
      split
      · omega
      · exact Nat.zero_le _
    omega
theorem put (rs : List ER) (A : Option Addr) (c : Nat) (F : Heap) (hr : RowAt F A (evsV rs)) (hok : ∀ r ∈ rs, EvOk F r) (hsz : ∀ r ∈ rs, r.e.bs.length ≤ 600 ∧ r.e.ks.length ≤ 200) (hl : rs.length ≤ 100) :
    FnK Try.prog 29 #[.slice A rs.length c] F (fun v F' => Mine F F' v 5 1 (putS (rs.map (·.e))).length (bytesOf (putS (rs.map (·.e))))) := by
  (refine fn_walk tab_ok Try.func29 rfl rfl rfl rfl ?_; (conv => whnf))
  refine loop_slots [3, 6, 7, 8] (fun mm vs F' => ∃ (j : Nat) (S : Value), j + mm = rs.length ∧ vs = [S, .slice A rs.length c, .int .i64 (rs.length : Int), .int .i64 (j : Int)] ∧ Mine F F' S 5 1 (putS ((rs.take j).map (·.e))).length (bytesOf (putS ((rs.take j).map (·.e))))) rs.length ⟨0, .slice none 0 0, by omega, rfl, Mine.nil _ _ _ _ (Ext.refl F)⟩ ?_
  rintro mm vs F2 ρ ⟨j, S, hjm, rfl, hM⟩
  (conv => whnf)
  refine cond_split (fun h => ?_) (fun h => ?_)
  · have hj : j < rs.length := by have := of_decide_eq_true h; omega
    obtain ⟨ad, rfl⟩ := hr.some (by rw [evsV_len]; omega)
    have hx : rs[j]? = some rs[j] := List.getElem?_eq_getElem hj
    have hst := putS_take hx
    have hLr := fun (K : Value → Prop) => ev_load (K := K) (hr.mono hM.ext) hj
    have hev := hok rs[j] (List.getElem_mem hj)
    have hzz := hsz rs[j] (List.getElem_mem hj)
    have hpl := putS_len 0 (rs.take j) fun r hr => hsz r (List.mem_of_mem_take hr)
    rw [List.length_take] at hpl
    generalize rs[j] = r at hst hLr hev hzz
    obtain ⟨⟨k, n, bs, ks⟩, A1, c1, B1, cc1⟩ := r
    obtain ⟨e1, e2, e3⟩ := hev
    dsimp only at e1 e2 e3 hst hzz
    generalize putS ((rs.take j).map (·.e)) = cur at hst hM hpl
    have hcl := codeB_len ⟨k, n, bs, ks⟩
    dsimp only at hcl
    have h1 := fun G hg => check k n bs ks A1 c1 B1 cc1 G hg (by omega)
    have h2 := fun G ha hg => code k n bs ks A1 c1 B1 cc1 G ha hg (by omega) (by omega)
    generalize checkB ⟨k, n, bs, ks⟩ = ok at hst h1
    generalize codeB ⟨k, n, bs, ks⟩ = cd at hst h2 hcl
    (conv => whnf)
    refine ⟨⟨by omega, by omega⟩, ?_⟩
    (conv => whnf)
    refine hLr _ ?_
    (conv => whnf)
    refine new_step (evO 0 0 (.slice none 0 0) (.slice none 0 0)) rfl fun u hu => ?_
    have hU := Heap.put_same F2 u (evO 0 0 (.slice none 0 0) (.slice none 0 0))
    have hEu : ∀ o, Ext F2 ((F2.put u (evO 0 0 (.slice none 0 0) (.slice none 0 0))).put u o) := fun o => ext_put_put hu
    generalize F2.put u _ = F3 at hU hEu ⊢
    have o1 : ∀ v ∈ [Value.int .i64 k, .int .i64 n, .slice A1 bs.length c1, .slice B1 ks.length cc1], v.oneCell' = true := by simp [Value.oneCell']
    (conv => whnf)
    refine store_step u 0 _ (evC k n (.slice A1 bs.length c1) (.slice B1 ks.length cc1)) rfl hU rfl rfl (.inl (Nat.le_refl 0)) o1 ?_
    have hU4 := Heap.put_same F3 u (evO k n (.slice A1 bs.length c1) (.slice B1 ks.length cc1))
    have hM4 := hM.mono (hEu (evO k n (.slice A1 bs.length c1) (.slice B1 ks.length cc1)))
    generalize F3.put u _ = F4 at hU4 hM4 ⊢
    refine short [3, 5, 6, 7, 8] [S, .pointer (some ⟨u, 0, none⟩), .slice (some ad) rs.length c, .int .i64 (rs.length : Int), .int .i64 (j : Int)] rfl fun ρ => ?_
    (conv => whnf)
    refine ⟨⟨_, _, _, hU4, rfl, Nat.le_refl 4, ?_⟩⟩
    (conv => whnf)
    refine call_of (h1 F4 (e2.mono hM4.ext)) ?_
    rintro v F5 ⟨rfl, hE5⟩
    have hU5 := hE5 _ _ hU4
    have hM5 := hM4.mono hE5
    cases ok with
    | false =>
      (conv => whnf)
      refine ⟨mm - 1, by omega, j + 1, S, by omega, ?_, ?_⟩
      · have hw : IntKind.i64.wrap ((j : Int) + 1) = ((j + 1 : Nat) : Int) := by rw [IntKind.wrap_i64]; omega
        rw [← hw]
        rfl
      · rw [hst, if_neg (by decide), List.append_nil]
        exact hM5
    | true =>
      rw [if_pos rfl] at hst
      (conv => whnf)
      refine ⟨⟨_, _, _, hU5, rfl, Nat.le_refl 4, ?_⟩⟩
      (conv => whnf)
      refine call_of (h2 F5 (e1.mono hM5.ext) (e2.mono hM5.ext)) ?_
      rintro s6 F6 hM6
      have hM7 := hM5.mono hM6.ext
      obtain ⟨A6, c6, rfl, _, hR6⟩ := hM6.own.row
      (conv => whnf)
      refine append_mine tab_ok rfl rfl rfl rfl rfl ⟨_, rfl, fun k h => by cases h⟩ ⟨_, rfl, rfl⟩ (by decide) hM7 (m := cd.length) (ys := bytesOf cd) (y := .slice A6 cd.length c6) ⟨by simp [bytesOf], .inl ⟨_, _, rfl, hR6⟩⟩ (hone_bytes cd) (by show 2 * (cur.length + cd.length) * 1 ≤ _; omega) fun s' F8 h1 h2 => ?_
      (conv => whnf)
      refine ⟨mm - 1, by omega, j + 1, s', by omega, ?_, ?_⟩
      · have hw : IntKind.i64.wrap ((j : Int) + 1) = ((j + 1 : Nat) : Int) := by rw [IntKind.wrap_i64]; omega
        rw [← hw]
        rfl
      · rw [hst, List.length_append, bytes_app]
        exact h1
  · have hj : j = rs.length := by have := of_decide_eq_false h; omega
    subst hj
    rw [List.take_length] at hM
    (conv => whnf)
    exact hM
end Go.Proofs.Ytkahpaipciooiad.Al

/- The law ScriptBack holds of the program: proved over what is known of memory, each function by its contract. -/
import Derived.Test.YtkahpaipciooiadAlLawScriptBack
import Derived.Test.YtkahpaipciooiadScrAwake
namespace Go.Proofs.Ytkahpaipciooiad.AlScriptBack
open Go Go.Al Go.Proofs Go.RowKit Go.Proofs.Ytkahpaipciooiad.Al
set_option maxHeartbeats 8000000
set_option maxRecDepth 100000
set_option linter.unusedVariables false
set_option linter.unusedSimpArgs false
def okR (r : ER) : Bool := checkB r.e
theorem filt_take {rs : List ER} {j : Nat} {r : ER} (h : rs[j]? = some r) : (rs.take (j + 1)).filter okR = (rs.take j).filter okR ++ (if checkB r.e then [r] else []) := by
  rw [List.take_add_one, h, Option.toList_some, List.filter_append]
  congr 1
  rw [List.filter_cons]
  rfl
theorem filt_map (rs : List ER) : (rs.filter okR).map (·.e) = (rs.map (·.e)).filter checkB := by
  rw [List.filter_map]
  rfl
theorem law : LawK := by
  intro F xx w A c hc hK
  obtain ⟨rs, hl, hr, hok⟩ := evs_open w.2 hK
  rw [← hl]
  clear hK w hc hl
  have hli : lightL rs = true → rs.length ≤ 40 ∧ ∀ r ∈ rs, r.e.bs.length ≤ 600 ∧ r.e.ks.length ≤ 200 := by
    intro h
    unfold lightL at h
    rw [Bool.and_eq_true, decide_eq_true_eq, List.all_eq_true] at h
    refine ⟨h.1, fun r hr => ?_⟩
    have := h.2 r hr
    unfold lightB at this
    rw [Bool.and_eq_true, decide_eq_true_eq, decide_eq_true_eq] at this
    exact this
  have hcl := light rs A c F hr
  generalize lightL rs = z at hli hcl
  (refine fn_walk tab_ok Try.func7 rfl rfl rfl rfl ?_; (conv => whnf))
  refine call_of hcl ?_
  rintro v F1 ⟨rfl, hE1⟩
  cases z with
  | false =>
    (conv => whnf)
    refine call_of (awake _) ?_
    rintro v F9 ⟨rfl, hF9⟩
    (conv => whnf)
    exact ⟨rfl, hE1.trans hF9⟩
  | true =>
  obtain ⟨h40, hsz⟩ := hli rfl
  clear hli hcl
  (conv => whnf)
  refine loop_slots [0, 3, 10, 11, 12] (fun mm vs F' => ∃ (j : Nat) (S : Value), j + mm = rs.length ∧ vs = [.slice A rs.length c, S, .slice A rs.length c, .int .i64 (rs.length : Int), .int .i64 (j : Int)] ∧ Mine F F' S 47 4 ((rs.take j).filter okR).length (evsV ((rs.take j).filter okR))) rs.length ⟨0, .slice none 0 0, by omega, rfl, Mine.nil _ _ _ _ hE1⟩ ?_
  clear hE1
  rintro mm vs F2 ρ ⟨j, S, hjm, rfl, hM⟩
  (conv => whnf)
  refine cond_split (fun h => ?_) (fun h => ?_)
  · have hj : j < rs.length := by have := of_decide_eq_true h; omega
    obtain ⟨ad, rfl⟩ := hr.some (by rw [evsV_len]; omega)
    have hx : rs[j]? = some rs[j] := List.getElem?_eq_getElem hj
    have hst := filt_take hx
    have hLr := fun (K : Value → Prop) => ev_load (K := K) (hr.mono hM.ext) hj
    have hev := hok rs[j] (List.getElem_mem hj)
    have hzz := hsz rs[j] (List.getElem_mem hj)
    have hll : ((rs.take j).filter okR).length ≤ 40 := by
      have := List.length_filter_le okR (rs.take j)
      rw [List.length_take] at this
      omega
    generalize rs[j] = r at hst hLr hev hzz
    obtain ⟨⟨k, n, bs, ks⟩, A1, c1, B1, cc1⟩ := r
    obtain ⟨e1, e2, e3⟩ := hev
    dsimp only at e1 e2 e3 hst hzz
    have h1 := fun G hg => check k n bs ks A1 c1 B1 cc1 G hg (by omega)
    generalize checkB ⟨k, n, bs, ks⟩ = ok at hst h1
    generalize (rs.take j).filter okR = cur at hst hM hll
    (conv => whnf)
    refine ⟨⟨by omega, by omega⟩, ?_⟩
    (conv => whnf)
    refine hLr _ ?_
    (conv => whnf)
    refine new_step zeroE rfl fun u hu => ?_
    have hU := Heap.put_same F2 u zeroE
    have hX := fun o => ext_put_put hu (o := zeroE) (o' := o)
    generalize F2.put u zeroE = F3 at hU hX ⊢
    (conv => whnf)
    refine store_step u 0 _ (evC k n (.slice A1 bs.length c1) (.slice B1 ks.length cc1)) rfl hU rfl rfl (.inl (Nat.le_refl 0)) (os4 _ _ _ _ _ _ _ _) ?_
    have hU := Heap.put_same F3 u (evO k n (.slice A1 bs.length c1) (.slice B1 ks.length cc1))
    replace hM := hM.mono (hX (evO k n (.slice A1 bs.length c1) (.slice B1 ks.length cc1)))
    generalize F3.put u _ = F4 at hU hM ⊢
    clear hX
    refine short [0, 3, 5, 10, 11, 12] [.slice (some ad) rs.length c, S, .pointer (some ⟨u, 0, none⟩), .slice (some ad) rs.length c, .int .i64 (rs.length : Int), .int .i64 (j : Int)] rfl fun ρ => ?_
    (conv => whnf)
    refine ⟨⟨_, _, _, hU, rfl, Nat.le_refl 4, ?_⟩⟩
    (conv => whnf)
    refine call_of (h1 F4 (e2.mono hM.ext)) ?_
    rintro v F5 ⟨rfl, hE5⟩
    have hU5 := hE5 _ _ hU
    replace hM := hM.mono hE5
    cases ok with
    | false =>
      (conv => whnf)
      refine ⟨mm - 1, by omega, j + 1, S, by omega, ?_, ?_⟩
      · have hw : IntKind.i64.wrap ((j : Int) + 1) = ((j + 1 : Nat) : Int) := by rw [IntKind.wrap_i64]; omega
        rw [← hw]
        rfl
      · rw [hst, if_neg (by decide), List.append_nil]
        exact hM
    | true =>
      rw [if_pos rfl] at hst
      (conv => whnf)
      refine ⟨⟨_, _, _, hU5, rfl, Nat.le_refl 4, ?_⟩⟩
      (conv => whnf)
      refine new_step (evO k n (.slice A1 bs.length c1) (.slice B1 ks.length cc1)) rfl fun g hg => ?_
      have hXg := Ext.new hg (evO k n (.slice A1 bs.length c1) (.slice B1 ks.length cc1))
      have hG := Heap.put_same F5 g (evO k n (.slice A1 bs.length c1) (.slice B1 ks.length cc1))
      replace hM := hM.mono hXg
      generalize F5.put g _ = F6 at hM hG ⊢
      (conv => whnf)
      refine append_mine tab_ok (m := 1) (ys := (evA ⟨⟨k, n, bs, ks⟩, A1, c1, B1, cc1⟩).toList) (y := .slice (some ⟨g, 0, none⟩) 1 1) rfl rfl rfl rfl rfl ⟨_, rfl, fun k h => by cases h⟩ ⟨_, rfl, rfl⟩ (by decide) hM ⟨rfl, .inl ⟨_, _, rfl, fun j v hj => ⟨_, rfl, by rw [add_plain, Heap.cell_at hG, Nat.zero_add, ← Array.getElem?_toList]; exact hj⟩⟩⟩ (ev_one _) (by show 2 * (cur.length + 1) * 64 ≤ _; omega) fun s' F7 h5 h6 => ?_
      (conv => whnf)
      refine ⟨mm - 1, by omega, j + 1, s', by omega, ?_, ?_⟩
      · have hw : IntKind.i64.wrap ((j : Int) + 1) = ((j + 1 : Nat) : Int) := by rw [IntKind.wrap_i64]; omega
        rw [← hw]
        rfl
      · rw [hst, List.length_append, evsV_app]
        exact h5
  · have hj : j = rs.length := by have := of_decide_eq_false h; omega
    subst hj
    rw [List.take_length] at hM
    have hp := put rs A c
    have hpl := putS_len 0 rs hsz
    have hpp := parse_put (rs.map (·.e))
    rw [← filt_map] at hpp
    generalize putS (rs.map (·.e)) = pb at hp hpl hpp
    have hfo : ∀ r ∈ rs.filter okR, EvOk F r ∧ r.e.ks.length ≤ 1000 := fun r hr => by
      have h := (List.mem_filter.1 hr).1
      have := (hsz r h).2
      exact ⟨hok r h, by omega⟩
    have hfl : (rs.filter okR).length ≤ 40 := by
      have := List.length_filter_le okR rs
      omega
    generalize rs.filter okR = fs at hM hpp hfo hfl
    obtain ⟨A3, c3, rfl, _, hR3⟩ := hM.own.row
    (conv => whnf)
    refine call_of (hp F2 (hr.mono hM.ext) (fun r h => (hok r h).mono hM.ext) hsz (by omega)) ?_
    rintro v F3 hM3
    obtain ⟨A4, c4, rfl, hc4, hR4⟩ := hM3.own.row
    (conv => whnf)
    refine call_of (parse pb A4 c4 F3 hR4 (by omega) hc4) ?_
    rintro v F4 ⟨⟨ts, A5, c5, he5, rfl, hr5, ho5⟩, hE4⟩
    have hE24 := hM3.ext.trans hE4
    have hE04 := hM.ext.trans hE24
    rw [hpp] at he5
    have hts : ts.length = fs.length := by
      have := congrArg List.length he5
      rwa [List.length_map, List.length_map] at this
    have htk : ∀ r ∈ ts, r.e.ks.length ≤ 1000 := by
      intro r h
      have : r.e ∈ fs.map (·.e) := by rw [← he5]; exact List.mem_map_of_mem h
      obtain ⟨r', h1, h2⟩ := List.mem_map.1 this
      rw [← h2]
      exact (hfo r' h1).2
    (conv => whnf)
    refine call_of (sameL ts fs A5 A3 c5 c3 F4 hr5 (hR3.mono hE24) ho5 (fun r h => ((hfo r h).1.mono hE04)) htk (fun r h => (hfo r h).2) (by omega) (by omega)) ?_
    rintro v F5 ⟨⟨z, rfl, hz⟩, hE5⟩
    obtain rfl : z = true := hz.2 he5
    (conv => whnf)
    refine call_of (awake _) ?_
    rintro v F9 ⟨rfl, hF9⟩
    (conv => whnf)
    exact ⟨rfl, hE04.trans (hE5.trans hF9)⟩
end Go.Proofs.Ytkahpaipciooiad.AlScriptBack

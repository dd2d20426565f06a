/- The law DiffBack holds of the program: proved over what is known of memory, each function by its contract. -/
import Derived.Test.YtlkdbmoocajjlaaAlLawDiffBack
import Derived.Test.YtlkdbmoocajjlaaDfO
namespace Go.Proofs.Ytlkdbmoocajjlaa.AlDiffBack
open Go Go.Al Go.Proofs Go.RowKit Go.Proofs.Ytlkdbmoocajjlaa.Al
set_option maxHeartbeats 8000000
set_option maxRecDepth 100000
set_option linter.unusedVariables false
set_option linter.unusedSimpArgs false
theorem filter_le {α : Type} (f : α → Bool) (l : List α) : (l.filter f).length ≤ l.length := List.length_filter_le f l
theorem betweenP_len (a b : List PD) : (betweenP a b).length ≤ b.length := by
  unfold betweenP
  split
  · exact List.length_filter_le _ _
  · exact Nat.zero_le _
theorem betweenD_len (a b : List PD) : (betweenD a b).length ≤ a.length := by
  unfold betweenD
  split
  · rw [List.length_map]; exact List.length_filter_le _ _
  · exact Nat.zero_le _
theorem law : LawK := by
  intro F x0 w0 A0 c0 hc0 hK0 x1 w1 A1 c1 hc1 hK1
  obtain ⟨rs, hl0, hr0, ho0⟩ := prs_open w0.2 hK0
  obtain ⟨ss, hl1, hr1, ho1⟩ := prs_open w1.2 hK1
  rw [← hl0, ← hl1]
  clear hK0 hK1 w0 w1 hl0 hl1 hc0 hc1
  have hf0 := few rs A0 c0 30 F hr0 (by decide)
  have hf1 := fun F' (hE : Ext F F') => few ss A1 c1 30 F' (hr1.mono hE) (by decide)
  have hb0 := fun h => fewB_iff (rs := rs) (many := 30) h
  have hb1 := fun h => fewB_iff (rs := ss) (many := 30) h
  generalize fewB rs 30 = q0 at hf0 hb0
  generalize fewB ss 30 = q1 at hf1 hb1
  have bad : ∀ F', Ext F F' → FnK Try.prog 18 #[] F' (fun v F'' => v = .bool true ∧ Ext F F'') := fun F' hE => (Al.awake F').mono fun v F'' h => ⟨h.1, hE.trans h.2⟩
  (refine fn_walk tab_ok Try.func5 rfl rfl rfl rfl ?_; (conv => whnf))
  refine call_of hf0 ?_
  rintro v F1 ⟨rfl, E1⟩
  cases q0 with
  | false =>
    ((conv => whnf); repeat (first | (apply load_at; (conv => lhs; whnf); (with_reducible assumption); rfl; (conv => whnf)) | (apply load_at; (conv => lhs; rw [add_plain, add_plain]); (with_reducible assumption); rfl; (conv => whnf)) | (apply loads_at; (conv => lhs; whnf); (with_reducible assumption); rfl; (conv => whnf)) | (refine ⟨⟨by omega, by omega⟩, ?_⟩; (conv => whnf))))
    refine call_of (bad F1 E1) ?_
    rintro v F2 ⟨rfl, E2⟩
    ((conv => whnf); repeat (first | (apply load_at; (conv => lhs; whnf); (with_reducible assumption); rfl; (conv => whnf)) | (apply load_at; (conv => lhs; rw [add_plain, add_plain]); (with_reducible assumption); rfl; (conv => whnf)) | (apply loads_at; (conv => lhs; whnf); (with_reducible assumption); rfl; (conv => whnf)) | (refine ⟨⟨by omega, by omega⟩, ?_⟩; (conv => whnf))))
    exact ⟨rfl, E2⟩
  | true =>
  ((conv => whnf); repeat (first | (apply load_at; (conv => lhs; whnf); (with_reducible assumption); rfl; (conv => whnf)) | (apply load_at; (conv => lhs; rw [add_plain, add_plain]); (with_reducible assumption); rfl; (conv => whnf)) | (apply loads_at; (conv => lhs; whnf); (with_reducible assumption); rfl; (conv => whnf)) | (refine ⟨⟨by omega, by omega⟩, ?_⟩; (conv => whnf))))
  refine call_of (hf1 F1 E1) ?_
  rintro v F2 ⟨rfl, E2⟩
  have E02 := E1.trans E2
  cases q1 with
  | false =>
    ((conv => whnf); repeat (first | (apply load_at; (conv => lhs; whnf); (with_reducible assumption); rfl; (conv => whnf)) | (apply load_at; (conv => lhs; rw [add_plain, add_plain]); (with_reducible assumption); rfl; (conv => whnf)) | (apply loads_at; (conv => lhs; whnf); (with_reducible assumption); rfl; (conv => whnf)) | (refine ⟨⟨by omega, by omega⟩, ?_⟩; (conv => whnf))))
    refine call_of (bad F2 E02) ?_
    rintro v F3 ⟨rfl, E3⟩
    ((conv => whnf); repeat (first | (apply load_at; (conv => lhs; whnf); (with_reducible assumption); rfl; (conv => whnf)) | (apply load_at; (conv => lhs; rw [add_plain, add_plain]); (with_reducible assumption); rfl; (conv => whnf)) | (apply loads_at; (conv => lhs; whnf); (with_reducible assumption); rfl; (conv => whnf)) | (refine ⟨⟨by omega, by omega⟩, ?_⟩; (conv => whnf))))
    exact ⟨rfl, E3⟩
  | true =>
  obtain ⟨l0, o0⟩ := hb0 rfl
  obtain ⟨l1, o1⟩ := hb1 rfl
  have p0 : ∀ r ∈ rs, PrG F r := fun r hr => ⟨ho0 r hr, (o0 r hr).1, (o0 r hr).2⟩
  have p1 : ∀ r ∈ ss, PrG F r := fun r hr => ⟨ho1 r hr, (o1 r hr).1, (o1 r hr).2⟩
  clear hf0 hf1 hb0 hb1
  ((conv => whnf); repeat (first | (apply load_at; (conv => lhs; whnf); (with_reducible assumption); rfl; (conv => whnf)) | (apply load_at; (conv => lhs; rw [add_plain, add_plain]); (with_reducible assumption); rfl; (conv => whnf)) | (apply loads_at; (conv => lhs; whnf); (with_reducible assumption); rfl; (conv => whnf)) | (refine ⟨⟨by omega, by omega⟩, ?_⟩; (conv => whnf))))
  refine call_of (rising rs A0 c0 F2 (hr0.mono E02) (by omega) (fun r hr => (p0 r hr).mono E02)) ?_
  rintro v F3 ⟨xs, hX, hxp, hxl, E23⟩
  obtain ⟨A, ca, rfl, hca, ha⟩ := hX.out
  have E03 := E02.trans E23
  ((conv => whnf); repeat (first | (apply load_at; (conv => lhs; whnf); (with_reducible assumption); rfl; (conv => whnf)) | (apply load_at; (conv => lhs; rw [add_plain, add_plain]); (with_reducible assumption); rfl; (conv => whnf)) | (apply loads_at; (conv => lhs; whnf); (with_reducible assumption); rfl; (conv => whnf)) | (refine ⟨⟨by omega, by omega⟩, ?_⟩; (conv => whnf))))
  refine call_of (rising ss A1 c1 F3 (hr1.mono E03) (by omega) (fun r hr => (p1 r hr).mono E03)) ?_
  rintro v F4 ⟨ys, hY, hyp, hyl, E34⟩
  obtain ⟨B, cb, rfl, hcb, hb⟩ := hY.out
  have E04 := E03.trans E34
  replace ha := ha.mono E34
  have hoa : ∀ r ∈ xs, PrG F4 r := fun r hr => (hX.ok r hr).mono E34
  have hob := hY.ok
  have hrx : RisL (xs.map pd) := by rw [hxp]; exact rising_ris _
  have hry : RisL (ys.map pd) := by rw [hyp]; exact rising_ris _
  refine short [21, 23] [.slice A xs.length ca, .slice B ys.length cb] rfl fun ρ => ?_
  have hbt := between xs ys A B ca cb F4 ha hb (by omega) (by omega) hca hcb hoa hob
  ((conv => whnf); repeat (first | (apply load_at; (conv => lhs; whnf); (with_reducible assumption); rfl; (conv => whnf)) | (apply load_at; (conv => lhs; rw [add_plain, add_plain]); (with_reducible assumption); rfl; (conv => whnf)) | (apply loads_at; (conv => lhs; whnf); (with_reducible assumption); rfl; (conv => whnf)) | (refine ⟨⟨by omega, by omega⟩, ?_⟩; (conv => whnf))))
  refine call_of hbt ?_
  rintro v F5 ⟨ps, dl, S5, T5, rfl, hS5, hp5, hT5, hd5, E5⟩
  obtain ⟨A5, c5, rfl, hc5, hr5⟩ := hS5.out
  obtain ⟨B5, d5, rfl, _, hs5⟩ := hT5.out
  have hbs := between xs xs A A ca ca F5 (ha.mono E5) (ha.mono E5) (by omega) (by omega) hca hca (fun r hr => (hoa r hr).mono E5) (fun r hr => (hoa r hr).mono E5)
  rw [(between_self hrx).1, (between_self hrx).2] at hbs
  refine short [5, 6, 27] [.slice A xs.length ca, .slice B ys.length cb, .tuple #[.slice A5 ps.length c5, .slice B5 dl.length d5]] rfl fun ρ => ?_
  ((conv => whnf); repeat (first | (apply load_at; (conv => lhs; whnf); (with_reducible assumption); rfl; (conv => whnf)) | (apply load_at; (conv => lhs; rw [add_plain, add_plain]); (with_reducible assumption); rfl; (conv => whnf)) | (apply loads_at; (conv => lhs; whnf); (with_reducible assumption); rfl; (conv => whnf)) | (refine ⟨⟨by omega, by omega⟩, ?_⟩; (conv => whnf))))
  refine call_of hbs ?_
  rintro v F6 ⟨ns, ms, S6, T6, rfl, hS6, hp6, hT6, hd6, E6⟩
  obtain ⟨A6, c6, rfl, hc6, hr6⟩ := hS6.out
  obtain ⟨B6, d6, rfl, _, hs6⟩ := hT6.out
  have hn : ns = [] := List.map_eq_nil_iff.1 hp6
  have hm : ms = [] := List.map_eq_nil_iff.1 hd6
  have hnl : ns.length = 0 := by rw [hn]; rfl
  have hml : ms.length = 0 := by rw [hm]; rfl
  have E46 := E5.trans E6
  have hlp : ps.length ≤ 300 := by
    have h1 := congrArg List.length hp5
    have h2 := betweenP_len (xs.map pd) (ys.map pd)
    rw [List.length_map] at h1 h2
    omega
  have hld : dl.length ≤ 300 := by
    have h1 := congrArg List.length hd5
    have h2 := betweenD_len (xs.map pd) (ys.map pd)
    rw [List.length_map] at h1 h2
    omega
  have hap := apply xs ps dl A A5 B5 ca c5 d5 F6 (ha.mono E46) (hr5.mono E6) (hs5.mono E6) (by omega) hlp hld hca (fun r hr => (hoa r hr).mono E46) (fun r hr => (hS5.ok r hr).mono E6) (fun r hr => (hT5.ok r hr).mono E6)
  rw [hp5, hd5, apply_between hrx hry] at hap
  refine short [5, 6, 7, 8, 33] [.slice A xs.length ca, .slice B ys.length cb, .slice A5 ps.length c5, .slice B5 dl.length d5, .tuple #[.slice A6 ns.length c6, .slice B6 ms.length d6]] rfl fun ρ => ?_
  ((conv => whnf); repeat (first | (apply load_at; (conv => lhs; whnf); (with_reducible assumption); rfl; (conv => whnf)) | (apply load_at; (conv => lhs; rw [add_plain, add_plain]); (with_reducible assumption); rfl; (conv => whnf)) | (apply loads_at; (conv => lhs; whnf); (with_reducible assumption); rfl; (conv => whnf)) | (refine ⟨⟨by omega, by omega⟩, ?_⟩; (conv => whnf))))
  refine call_of hap ?_
  rintro v F7 ⟨us, hU, hup, E7⟩
  obtain ⟨A7, c7, rfl, hc7, hr7⟩ := hU.out
  have E47 := E46.trans E7
  have hlu : us.length ≤ 100000 := by
    have h1 := congrArg List.length hup
    rw [List.length_map, List.length_map] at h1
    omega
  have hpq := plainPairs us ys A7 B c7 cb F7 hr7 (hb.mono E47) (fun r hr => (hU.ok r hr).ok) (fun r hr => ((hob r hr).mono E47).ok) hlu
  rw [hup, beq_self_eq_true] at hpq
  ((conv => whnf); repeat (first | (apply load_at; (conv => lhs; whnf); (with_reducible assumption); rfl; (conv => whnf)) | (apply load_at; (conv => lhs; rw [add_plain, add_plain]); (with_reducible assumption); rfl; (conv => whnf)) | (apply loads_at; (conv => lhs; whnf); (with_reducible assumption); rfl; (conv => whnf)) | (refine ⟨⟨by omega, by omega⟩, ?_⟩; (conv => whnf))))
  refine call_of hpq ?_
  rintro v F8 ⟨rfl, E8⟩
  have hz : (IntKind.i64.wrap ((ns.length : Int) + (ms.length : Int)) == 0) = true := by rw [hnl, hml]; decide
  ((conv => whnf); repeat (first | (apply load_at; (conv => lhs; whnf); (with_reducible assumption); rfl; (conv => whnf)) | (apply load_at; (conv => lhs; rw [add_plain, add_plain]); (with_reducible assumption); rfl; (conv => whnf)) | (apply loads_at; (conv => lhs; whnf); (with_reducible assumption); rfl; (conv => whnf)) | (refine ⟨⟨by omega, by omega⟩, ?_⟩; (conv => whnf))))
  refine cond_split (fun h => ?_) (fun h => absurd (show (IntKind.i64.wrap ((ns.length : Int) + (ms.length : Int)) == 0) = false from h) (by rw [hz]; decide))
  ((conv => whnf); repeat (first | (apply load_at; (conv => lhs; whnf); (with_reducible assumption); rfl; (conv => whnf)) | (apply load_at; (conv => lhs; rw [add_plain, add_plain]); (with_reducible assumption); rfl; (conv => whnf)) | (apply loads_at; (conv => lhs; whnf); (with_reducible assumption); rfl; (conv => whnf)) | (refine ⟨⟨by omega, by omega⟩, ?_⟩; (conv => whnf))))
  refine call_of (Al.awake F8) ?_
  rintro v F9 ⟨rfl, E9⟩
  ((conv => whnf); repeat (first | (apply load_at; (conv => lhs; whnf); (with_reducible assumption); rfl; (conv => whnf)) | (apply load_at; (conv => lhs; rw [add_plain, add_plain]); (with_reducible assumption); rfl; (conv => whnf)) | (apply loads_at; (conv => lhs; whnf); (with_reducible assumption); rfl; (conv => whnf)) | (refine ⟨⟨by omega, by omega⟩, ?_⟩; (conv => whnf))))
  exact ⟨rfl, E04.trans ((E47.trans E8).trans E9)⟩
end Go.Proofs.Ytlkdbmoocajjlaa.AlDiffBack

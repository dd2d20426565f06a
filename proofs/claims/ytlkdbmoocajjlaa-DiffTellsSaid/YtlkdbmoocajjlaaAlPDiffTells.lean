/- The law DiffTells holds of the program: proved over what is known of memory, each function by its contract. -/
import Derived.Test.YtlkdbmoocajjlaaAlLawDiffTells
import Derived.Test.YtlkdbmoocajjlaaDfO
namespace Go.Proofs.Ytlkdbmoocajjlaa.AlDiffTells
open Go Go.Al Go.Proofs Go.RowKit Go.Proofs.Ytlkdbmoocajjlaa.Al
set_option maxHeartbeats 8000000
set_option maxRecDepth 100000
set_option linter.unusedVariables false
set_option linter.unusedSimpArgs false
theorem filter_le {α : Type} (f : α → Bool) (l : List α) : (l.filter f).length ≤ l.length := List.length_filter_le f l
theorem betweenP_len (a b : List PD) : (betweenP a b).length ≤ b.length := by
  unfold betweenP
  split
  · exact List.length_filter_le _ _
  · exact Nat.zero_le _
theorem betweenD_len (a b : List PD) : (betweenD a b).length ≤ a.length := by
  unfold betweenD
  split
  · rw [List.length_map]; exact List.length_filter_le _ _
  · exact Nat.zero_le _
theorem putL_len (p : PD) : ∀ l : List PD, (putL' l p).length ≤ l.length + 1
  | [] => Nat.le_refl _
  | x :: l => by
    have := putL_len p l
    show (if ltB x.1 p.1 = true then x :: putL' l p else if x.1 = p.1 then p :: l else p :: x :: l).length ≤ _
    split
    · simp only [List.length_cons]; omega
    · split <;> simp only [List.length_cons] <;> omega
theorem fold_len : ∀ (ps l : List PD), (ps.foldl putL' l).length ≤ l.length + ps.length
  | [], l => Nat.le_refl _
  | p :: ps, l => by
    have h1 := fold_len ps (putL' l p)
    have h2 := putL_len p l
    show (ps.foldl putL' (putL' l p)).length ≤ _
    simp only [List.length_cons]
    omega
theorem applyL_len (a puts : List PD) (dels : List (List UInt8)) : (applyL a puts dels).length ≤ a.length + puts.length := by
  unfold applyL
  split
  · have h1 := fold_len puts (delsL a dels)
    have h2 : (delsL a dels).length ≤ a.length := by rw [delsL_eq]; exact List.length_filter_le _ _
    omega
  · exact Nat.zero_le _
theorem law : LawK := by
  intro F x0 w0 A0 c0 hc0 hK0 x1 w1 A1 c1 hc1 hK1 x2 w2 A2 c2 hc2 hK2 rise
  obtain ⟨rs, hl0, hr0, ho0⟩ := prs_open w0.2 hK0
  obtain ⟨ss, hl1, hr1, ho1⟩ := prs_open w1.2 hK1
  obtain ⟨ds, hl2, hC, hod⟩ := brs_open w2.2 hK2
  rw [← hl0, ← hl1, ← hl2]
  rw [← hl0] at hc0
  rw [← hl1] at hc1
  clear hK0 hK1 hK2 w0 w1 w2 hl0 hl1 hl2
  have hf0 := few rs A0 c0 30 F hr0 (by decide)
  have hf1 := fun F' (hE : Ext F F') => few ss A1 c1 30 F' (hr1.mono hE) (by decide)
  have hb0 := fun h => fewB_iff (rs := rs) (many := 30) h
  have hb1 := fun h => fewB_iff (rs := ss) (many := 30) h
  generalize fewB rs 30 = q0 at hf0 hb0
  generalize fewB ss 30 = q1 at hf1 hb1
  have bad : ∀ F', Ext F F' → FnK Try.prog 18 #[] F' (fun v F'' => v = .bool true ∧ Ext F F'') := fun F' hE => (Al.awake F').mono fun v F'' h => ⟨h.1, hE.trans h.2⟩
  (refine fn_walk tab_ok Try.func4 rfl rfl rfl rfl ?_; (conv => whnf))
  refine call_of hf0 ?_
  rintro v F1 ⟨rfl, E1⟩
  cases q0 with
  | false =>
    ((conv => whnf); repeat (first | (apply load_at; (conv => lhs; whnf); (with_reducible assumption); rfl; (conv => whnf)) | (apply load_at; (conv => lhs; rw [add_plain, add_plain]); (with_reducible assumption); rfl; (conv => whnf)) | (apply loads_at; (conv => lhs; whnf); (with_reducible assumption); rfl; (conv => whnf)) | (refine ⟨⟨by omega, by omega⟩, ?_⟩; (conv => whnf))))
    refine call_of (bad F1 E1) ?_
    rintro v F2 ⟨rfl, E2⟩
    ((conv => whnf); repeat (first | (apply load_at; (conv => lhs; whnf); (with_reducible assumption); rfl; (conv => whnf)) | (apply load_at; (conv => lhs; rw [add_plain, add_plain]); (with_reducible assumption); rfl; (conv => whnf)) | (apply loads_at; (conv => lhs; whnf); (with_reducible assumption); rfl; (conv => whnf)) | (refine ⟨⟨by omega, by omega⟩, ?_⟩; (conv => whnf))))
    exact ⟨rfl, E2⟩
  | true =>
  ((conv => whnf); repeat (first | (apply load_at; (conv => lhs; whnf); (with_reducible assumption); rfl; (conv => whnf)) | (apply load_at; (conv => lhs; rw [add_plain, add_plain]); (with_reducible assumption); rfl; (conv => whnf)) | (apply loads_at; (conv => lhs; whnf); (with_reducible assumption); rfl; (conv => whnf)) | (refine ⟨⟨by omega, by omega⟩, ?_⟩; (conv => whnf))))
  refine call_of (hf1 F1 E1) ?_
  rintro v F2 ⟨rfl, E2⟩
  have E02 := E1.trans E2
  cases q1 with
  | false =>
    ((conv => whnf); repeat (first | (apply load_at; (conv => lhs; whnf); (with_reducible assumption); rfl; (conv => whnf)) | (apply load_at; (conv => lhs; rw [add_plain, add_plain]); (with_reducible assumption); rfl; (conv => whnf)) | (apply loads_at; (conv => lhs; whnf); (with_reducible assumption); rfl; (conv => whnf)) | (refine ⟨⟨by omega, by omega⟩, ?_⟩; (conv => whnf))))
    refine call_of (bad F2 E02) ?_
    rintro v F3 ⟨rfl, E3⟩
    ((conv => whnf); repeat (first | (apply load_at; (conv => lhs; whnf); (with_reducible assumption); rfl; (conv => whnf)) | (apply load_at; (conv => lhs; rw [add_plain, add_plain]); (with_reducible assumption); rfl; (conv => whnf)) | (apply loads_at; (conv => lhs; whnf); (with_reducible assumption); rfl; (conv => whnf)) | (refine ⟨⟨by omega, by omega⟩, ?_⟩; (conv => whnf))))
    exact ⟨rfl, E3⟩
  | true =>
  obtain ⟨l0, o0⟩ := hb0 rfl
  obtain ⟨l1, o1⟩ := hb1 rfl
  have p0 : ∀ r ∈ rs, PrG F r := fun r hr => ⟨ho0 r hr, (o0 r hr).1, (o0 r hr).2⟩
  have p1 : ∀ r ∈ ss, PrG F r := fun r hr => ⟨ho1 r hr, (o1 r hr).1, (o1 r hr).2⟩
  clear hf0 hf1 hb0 hb1
  ((conv => whnf); repeat (first | (apply load_at; (conv => lhs; whnf); (with_reducible assumption); rfl; (conv => whnf)) | (apply load_at; (conv => lhs; rw [add_plain, add_plain]); (with_reducible assumption); rfl; (conv => whnf)) | (apply loads_at; (conv => lhs; whnf); (with_reducible assumption); rfl; (conv => whnf)) | (refine ⟨⟨by omega, by omega⟩, ?_⟩; (conv => whnf))))
  refine cond_split (fun h => ?_) (fun h => ?_)
  · ((conv => whnf); repeat (first | (apply load_at; (conv => lhs; whnf); (with_reducible assumption); rfl; (conv => whnf)) | (apply load_at; (conv => lhs; rw [add_plain, add_plain]); (with_reducible assumption); rfl; (conv => whnf)) | (apply loads_at; (conv => lhs; whnf); (with_reducible assumption); rfl; (conv => whnf)) | (refine ⟨⟨by omega, by omega⟩, ?_⟩; (conv => whnf))))
    refine call_of (bad F2 E02) ?_
    rintro v F3 ⟨rfl, E3⟩
    ((conv => whnf); repeat (first | (apply load_at; (conv => lhs; whnf); (with_reducible assumption); rfl; (conv => whnf)) | (apply load_at; (conv => lhs; rw [add_plain, add_plain]); (with_reducible assumption); rfl; (conv => whnf)) | (apply loads_at; (conv => lhs; whnf); (with_reducible assumption); rfl; (conv => whnf)) | (refine ⟨⟨by omega, by omega⟩, ?_⟩; (conv => whnf))))
    exact ⟨rfl, E3⟩
  have hl : ds.length ≤ 30 := by have h : decide ((ds.length : Int) > 30) = false := h
                                 have := of_decide_eq_false h
                                 omega
  refine short [0, 1, 2, 3] [.slice A0 rs.length c0, .slice A1 ss.length c1, .slice A2 ds.length c2, .bool rise] rfl fun ρ => ?_
  obtain ⟨C, hCe⟩ : ∃ C, C = A2 := ⟨_, rfl⟩
  obtain ⟨cc, hcce⟩ : ∃ cc, cc = c2 := ⟨_, rfl⟩
  rw [← hCe] at hC ⊢
  rw [← hcce]
  cases rise with
  | true =>
    ((conv => whnf); repeat (first | (apply load_at; (conv => lhs; whnf); (with_reducible assumption); rfl; (conv => whnf)) | (apply load_at; (conv => lhs; rw [add_plain, add_plain]); (with_reducible assumption); rfl; (conv => whnf)) | (apply loads_at; (conv => lhs; whnf); (with_reducible assumption); rfl; (conv => whnf)) | (refine ⟨⟨by omega, by omega⟩, ?_⟩; (conv => whnf))))
    refine call_of (rising rs A0 c0 F2 (hr0.mono E02) (by omega) (fun r hr => (p0 r hr).mono E02)) ?_
    rintro v F21 ⟨xs, hX, _, hxl, E21⟩
    obtain ⟨A, ca, rfl, hca, ha⟩ := hX.out
    have E021 := E02.trans E21
    ((conv => whnf); repeat (first | (apply load_at; (conv => lhs; whnf); (with_reducible assumption); rfl; (conv => whnf)) | (apply load_at; (conv => lhs; rw [add_plain, add_plain]); (with_reducible assumption); rfl; (conv => whnf)) | (apply loads_at; (conv => lhs; whnf); (with_reducible assumption); rfl; (conv => whnf)) | (refine ⟨⟨by omega, by omega⟩, ?_⟩; (conv => whnf))))
    refine call_of (rising ss A1 c1 F21 (hr1.mono E021) (by omega) (fun r hr => (p1 r hr).mono E021)) ?_
    rintro v F3 ⟨ys, hY, _, hyl, E23⟩
    obtain ⟨B, cb, rfl, hcb, hb⟩ := hY.out
    have E03 := E021.trans E23
    replace ha := ha.mono E23
    have hoa : ∀ r ∈ xs, PrG F3 r := fun r hr => (hX.ok r hr).mono E23
    have hob := hY.ok
    replace hC := hC.mono E03
    replace hod : ∀ d ∈ ds, RowAt F3 d.A (bytesOf d.k) := fun d hd => (hod d hd).mono E03
    refine short [2, 29, 31] [.slice C ds.length cc, .slice A xs.length ca, .slice B ys.length cb] rfl fun ρ => ?_
    ((conv => whnf); repeat (first | (apply load_at; (conv => lhs; whnf); (with_reducible assumption); rfl; (conv => whnf)) | (apply load_at; (conv => lhs; rw [add_plain, add_plain]); (with_reducible assumption); rfl; (conv => whnf)) | (apply loads_at; (conv => lhs; whnf); (with_reducible assumption); rfl; (conv => whnf)) | (refine ⟨⟨by omega, by omega⟩, ?_⟩; (conv => whnf))))
    have hbt := between xs ys A B ca cb F3 ha hb (by omega) (by omega) hca hcb hoa hob
    refine call_of hbt ?_
    rintro v F4 ⟨ps, dl, S4, T4, rfl, hS4, hp4, hT4, hd4, E4⟩
    obtain ⟨A4, c4, rfl, hc4, hr4⟩ := hS4.out
    obtain ⟨B4, d4, rfl, _, hs4⟩ := hT4.out
    have hrt := refBetween xs ys A B ca cb F4 (ha.mono E4) (hb.mono E4) (by omega) (by omega) hca hcb (fun r hr => (hoa r hr).mono E4) (fun r hr => (hob r hr).mono E4)
    refine short [0, 1, 2, 35] [.slice A xs.length ca, .slice B ys.length cb, .slice C ds.length cc, .tuple #[.slice A4 ps.length c4, .slice B4 dl.length d4]] rfl fun ρ => ?_
    ((conv => whnf); repeat (first | (apply load_at; (conv => lhs; whnf); (with_reducible assumption); rfl; (conv => whnf)) | (apply load_at; (conv => lhs; rw [add_plain, add_plain]); (with_reducible assumption); rfl; (conv => whnf)) | (apply loads_at; (conv => lhs; whnf); (with_reducible assumption); rfl; (conv => whnf)) | (refine ⟨⟨by omega, by omega⟩, ?_⟩; (conv => whnf))))
    refine call_of hrt ?_
    rintro v F5 ⟨qs, el, S5, T5, rfl, hS5, hp5, hT5, hd5, E5⟩
    obtain ⟨A5, c5, rfl, hc5, hr5⟩ := hS5.out
    obtain ⟨B5, d5, rfl, _, hs5⟩ := hT5.out
    have E35 := E4.trans E5
    have hlp : ps.length ≤ 100000 := by
      have h1 := congrArg List.length hp4
      have h2 := betweenP_len (xs.map pd) (ys.map pd)
      rw [List.length_map] at h1 h2
      omega
    have hld : dl.length ≤ 100000 := by
      have h1 := congrArg List.length hd4
      have h2 := betweenD_len (xs.map pd) (ys.map pd)
      rw [List.length_map] at h1 h2
      omega
    have hpp := plainPairs ps qs A4 A5 c4 c5 F5 (hr4.mono E5) hr5 (fun r hr => ((hS4.ok r hr).mono E5).ok) (fun r hr => (hS5.ok r hr).ok) hlp
    rw [hp4, hp5, beq_self_eq_true] at hpp
    refine short [0, 1, 2, 9, 10, 41] [.slice A xs.length ca, .slice B ys.length cb, .slice C ds.length cc, .slice A4 ps.length c4, .slice B4 dl.length d4, .tuple #[.slice A5 qs.length c5, .slice B5 el.length d5]] rfl fun ρ => ?_
    ((conv => whnf); repeat (first | (apply load_at; (conv => lhs; whnf); (with_reducible assumption); rfl; (conv => whnf)) | (apply load_at; (conv => lhs; rw [add_plain, add_plain]); (with_reducible assumption); rfl; (conv => whnf)) | (apply loads_at; (conv => lhs; whnf); (with_reducible assumption); rfl; (conv => whnf)) | (refine ⟨⟨by omega, by omega⟩, ?_⟩; (conv => whnf))))
    refine call_of hpp ?_
    rintro v F6 ⟨rfl, E6⟩
    have hbb := plainBytes dl el B4 B5 d4 d5 F6 ((hs4.mono E5).mono E6) (hs5.mono E6) (fun r hr => ((hT4.ok r hr).mono E5).mono E6) (fun r hr => (hT5.ok r hr).mono E6) hld
    rw [hd4, hd5, beq_self_eq_true] at hbb
    ((conv => whnf); repeat (first | (apply load_at; (conv => lhs; whnf); (with_reducible assumption); rfl; (conv => whnf)) | (apply load_at; (conv => lhs; rw [add_plain, add_plain]); (with_reducible assumption); rfl; (conv => whnf)) | (apply loads_at; (conv => lhs; whnf); (with_reducible assumption); rfl; (conv => whnf)) | (refine ⟨⟨by omega, by omega⟩, ?_⟩; (conv => whnf))))
    refine call_of hbb ?_
    rintro v F7 ⟨rfl, rfl⟩
    have E37 := E35.trans E6
    have hap := apply xs ys ds A B C ca cb cc F7 (ha.mono E37) (hb.mono E37) (hC.mono E37) (by omega) (by omega) (by omega) hca (fun r hr => (hoa r hr).mono E37) (fun r hr => (hob r hr).mono E37) (fun r hr => (hod r hr).mono E37)
    ((conv => whnf); repeat (first | (apply load_at; (conv => lhs; whnf); (with_reducible assumption); rfl; (conv => whnf)) | (apply load_at; (conv => lhs; rw [add_plain, add_plain]); (with_reducible assumption); rfl; (conv => whnf)) | (apply loads_at; (conv => lhs; whnf); (with_reducible assumption); rfl; (conv => whnf)) | (refine ⟨⟨by omega, by omega⟩, ?_⟩; (conv => whnf))))
    refine call_of hap ?_
    rintro v F8 ⟨us, hU, hup, E8⟩
    obtain ⟨A8, c8, rfl, hc8, hr8⟩ := hU.out
    have E38 := E37.trans E8
    have hrp := refApply xs ys ds A B C ca cb cc F8 (ha.mono E38) (hb.mono E38) (hC.mono E38) (by omega) (by omega) (by omega) hca (fun r hr => (hoa r hr).mono E38) (fun r hr => (hob r hr).mono E38) (fun r hr => (hod r hr).mono E38)
    ((conv => whnf); repeat (first | (apply load_at; (conv => lhs; whnf); (with_reducible assumption); rfl; (conv => whnf)) | (apply load_at; (conv => lhs; rw [add_plain, add_plain]); (with_reducible assumption); rfl; (conv => whnf)) | (apply loads_at; (conv => lhs; whnf); (with_reducible assumption); rfl; (conv => whnf)) | (refine ⟨⟨by omega, by omega⟩, ?_⟩; (conv => whnf))))
    refine call_of hrp ?_
    rintro v F9 ⟨ws, hW, hwp, E9⟩
    obtain ⟨A9, c9, rfl, hc9, hr9⟩ := hW.out
    have hlu : us.length ≤ 100000 := by
      have h1 := congrArg List.length hup
      have h2 := applyL_len (xs.map pd) (ys.map pd) (ds.map BR.k)
      rw [List.length_map] at h1 h2
      rw [List.length_map] at h2
      omega
    have hpq := plainPairs us ws A8 A9 c8 c9 F9 (hr8.mono E9) hr9 (fun r hr => ((hU.ok r hr).mono E9).ok) (fun r hr => (hW.ok r hr).ok) hlu
    rw [hup, hwp, beq_self_eq_true] at hpq
    ((conv => whnf); repeat (first | (apply load_at; (conv => lhs; whnf); (with_reducible assumption); rfl; (conv => whnf)) | (apply load_at; (conv => lhs; rw [add_plain, add_plain]); (with_reducible assumption); rfl; (conv => whnf)) | (apply loads_at; (conv => lhs; whnf); (with_reducible assumption); rfl; (conv => whnf)) | (refine ⟨⟨by omega, by omega⟩, ?_⟩; (conv => whnf))))
    refine call_of hpq ?_
    rintro v F10 ⟨rfl, E10⟩
    have E310 := (E38.trans E9).trans E10
    have hri := right xs A ca F10 (ha.mono E310) (by omega) hca (fun r hr => ((hoa r hr).mono E310).ok.1)
    have hrr := fun F' (hE : Ext F10 F') => refRight xs A ca F' ((ha.mono E310).mono hE) (by omega) (fun r hr => (((hoa r hr).mono E310).mono hE).ok.1)
    generalize risB (xs.map PR.k) = q at hri hrr
    ((conv => whnf); repeat (first | (apply load_at; (conv => lhs; whnf); (with_reducible assumption); rfl; (conv => whnf)) | (apply load_at; (conv => lhs; rw [add_plain, add_plain]); (with_reducible assumption); rfl; (conv => whnf)) | (apply loads_at; (conv => lhs; whnf); (with_reducible assumption); rfl; (conv => whnf)) | (refine ⟨⟨by omega, by omega⟩, ?_⟩; (conv => whnf))))
    refine call_of hri ?_
    rintro v F11 ⟨rfl, E11⟩
    ((conv => whnf); repeat (first | (apply load_at; (conv => lhs; whnf); (with_reducible assumption); rfl; (conv => whnf)) | (apply load_at; (conv => lhs; rw [add_plain, add_plain]); (with_reducible assumption); rfl; (conv => whnf)) | (apply loads_at; (conv => lhs; whnf); (with_reducible assumption); rfl; (conv => whnf)) | (refine ⟨⟨by omega, by omega⟩, ?_⟩; (conv => whnf))))
    refine call_of (hrr F11 E11) ?_
    rintro v F12 ⟨rfl, rfl⟩
    ((conv => whnf); repeat (first | (apply load_at; (conv => lhs; whnf); (with_reducible assumption); rfl; (conv => whnf)) | (apply load_at; (conv => lhs; rw [add_plain, add_plain]); (with_reducible assumption); rfl; (conv => whnf)) | (apply loads_at; (conv => lhs; whnf); (with_reducible assumption); rfl; (conv => whnf)) | (refine ⟨⟨by omega, by omega⟩, ?_⟩; (conv => whnf))))
    refine cond_split (fun h => ?_) (fun h => absurd (show (q == q) = false from h) (by simp))
    ((conv => whnf); repeat (first | (apply load_at; (conv => lhs; whnf); (with_reducible assumption); rfl; (conv => whnf)) | (apply load_at; (conv => lhs; rw [add_plain, add_plain]); (with_reducible assumption); rfl; (conv => whnf)) | (apply loads_at; (conv => lhs; whnf); (with_reducible assumption); rfl; (conv => whnf)) | (refine ⟨⟨by omega, by omega⟩, ?_⟩; (conv => whnf))))
    refine call_of (Al.awake F12) ?_
    rintro v F13 ⟨rfl, E13⟩
    ((conv => whnf); repeat (first | (apply load_at; (conv => lhs; whnf); (with_reducible assumption); rfl; (conv => whnf)) | (apply load_at; (conv => lhs; rw [add_plain, add_plain]); (with_reducible assumption); rfl; (conv => whnf)) | (apply loads_at; (conv => lhs; whnf); (with_reducible assumption); rfl; (conv => whnf)) | (refine ⟨⟨by omega, by omega⟩, ?_⟩; (conv => whnf))))
    exact ⟨rfl, E03.trans (E310.trans (E11.trans E13))⟩
  | false =>
    obtain ⟨xs, hxs⟩ : ∃ xs, xs = rs := ⟨_, rfl⟩
    obtain ⟨ys, hys⟩ : ∃ ys, ys = ss := ⟨_, rfl⟩
    subst hxs hys
    have ha := hr0.mono E02
    have hb := hr1.mono E02
    have hoa : ∀ r ∈ xs, PrG F2 r := fun r hr => (p0 r hr).mono E02
    have hob : ∀ r ∈ ys, PrG F2 r := fun r hr => (p1 r hr).mono E02
    replace hC := hC.mono E02
    replace hod : ∀ d ∈ ds, RowAt F2 d.A (bytesOf d.k) := fun d hd => (hod d hd).mono E02
    have hbt := between xs ys A0 A1 c0 c1 F2 ha hb (by omega) (by omega) hc0 hc1 hoa hob
    ((conv => whnf); repeat (first | (apply load_at; (conv => lhs; whnf); (with_reducible assumption); rfl; (conv => whnf)) | (apply load_at; (conv => lhs; rw [add_plain, add_plain]); (with_reducible assumption); rfl; (conv => whnf)) | (apply loads_at; (conv => lhs; whnf); (with_reducible assumption); rfl; (conv => whnf)) | (refine ⟨⟨by omega, by omega⟩, ?_⟩; (conv => whnf))))
    refine call_of hbt ?_
    rintro v F4 ⟨ps, dl, S4, T4, rfl, hS4, hp4, hT4, hd4, E4⟩
    obtain ⟨A4, c4, rfl, hc4, hr4⟩ := hS4.out
    obtain ⟨B4, d4, rfl, _, hs4⟩ := hT4.out
    have hrt := refBetween xs ys A0 A1 c0 c1 F4 (ha.mono E4) (hb.mono E4) (by omega) (by omega) hc0 hc1 (fun r hr => (hoa r hr).mono E4) (fun r hr => (hob r hr).mono E4)
    refine short [0, 1, 2, 35] [.slice A0 xs.length c0, .slice A1 ys.length c1, .slice C ds.length cc, .tuple #[.slice A4 ps.length c4, .slice B4 dl.length d4]] rfl fun ρ => ?_
    ((conv => whnf); repeat (first | (apply load_at; (conv => lhs; whnf); (with_reducible assumption); rfl; (conv => whnf)) | (apply load_at; (conv => lhs; rw [add_plain, add_plain]); (with_reducible assumption); rfl; (conv => whnf)) | (apply loads_at; (conv => lhs; whnf); (with_reducible assumption); rfl; (conv => whnf)) | (refine ⟨⟨by omega, by omega⟩, ?_⟩; (conv => whnf))))
    refine call_of hrt ?_
    rintro v F5 ⟨qs, el, S5, T5, rfl, hS5, hp5, hT5, hd5, E5⟩
    obtain ⟨A5, c5, rfl, hc5, hr5⟩ := hS5.out
    obtain ⟨B5, d5, rfl, _, hs5⟩ := hT5.out
    have E35 := E4.trans E5
    have hlp : ps.length ≤ 100000 := by
      have h1 := congrArg List.length hp4
      have h2 := betweenP_len (xs.map pd) (ys.map pd)
      rw [List.length_map] at h1 h2
      omega
    have hld : dl.length ≤ 100000 := by
      have h1 := congrArg List.length hd4
      have h2 := betweenD_len (xs.map pd) (ys.map pd)
      rw [List.length_map] at h1 h2
      omega
    have hpp := plainPairs ps qs A4 A5 c4 c5 F5 (hr4.mono E5) hr5 (fun r hr => ((hS4.ok r hr).mono E5).ok) (fun r hr => (hS5.ok r hr).ok) hlp
    rw [hp4, hp5, beq_self_eq_true] at hpp
    refine short [0, 1, 2, 9, 10, 41] [.slice A0 xs.length c0, .slice A1 ys.length c1, .slice C ds.length cc, .slice A4 ps.length c4, .slice B4 dl.length d4, .tuple #[.slice A5 qs.length c5, .slice B5 el.length d5]] rfl fun ρ => ?_
    ((conv => whnf); repeat (first | (apply load_at; (conv => lhs; whnf); (with_reducible assumption); rfl; (conv => whnf)) | (apply load_at; (conv => lhs; rw [add_plain, add_plain]); (with_reducible assumption); rfl; (conv => whnf)) | (apply loads_at; (conv => lhs; whnf); (with_reducible assumption); rfl; (conv => whnf)) | (refine ⟨⟨by omega, by omega⟩, ?_⟩; (conv => whnf))))
    refine call_of hpp ?_
    rintro v F6 ⟨rfl, E6⟩
    have hbb := plainBytes dl el B4 B5 d4 d5 F6 ((hs4.mono E5).mono E6) (hs5.mono E6) (fun r hr => ((hT4.ok r hr).mono E5).mono E6) (fun r hr => (hT5.ok r hr).mono E6) hld
    rw [hd4, hd5, beq_self_eq_true] at hbb
    ((conv => whnf); repeat (first | (apply load_at; (conv => lhs; whnf); (with_reducible assumption); rfl; (conv => whnf)) | (apply load_at; (conv => lhs; rw [add_plain, add_plain]); (with_reducible assumption); rfl; (conv => whnf)) | (apply loads_at; (conv => lhs; whnf); (with_reducible assumption); rfl; (conv => whnf)) | (refine ⟨⟨by omega, by omega⟩, ?_⟩; (conv => whnf))))
    refine call_of hbb ?_
    rintro v F7 ⟨rfl, rfl⟩
    have E37 := E35.trans E6
    have hap := apply xs ys ds A0 A1 C c0 c1 cc F7 (ha.mono E37) (hb.mono E37) (hC.mono E37) (by omega) (by omega) (by omega) hc0 (fun r hr => (hoa r hr).mono E37) (fun r hr => (hob r hr).mono E37) (fun r hr => (hod r hr).mono E37)
    ((conv => whnf); repeat (first | (apply load_at; (conv => lhs; whnf); (with_reducible assumption); rfl; (conv => whnf)) | (apply load_at; (conv => lhs; rw [add_plain, add_plain]); (with_reducible assumption); rfl; (conv => whnf)) | (apply loads_at; (conv => lhs; whnf); (with_reducible assumption); rfl; (conv => whnf)) | (refine ⟨⟨by omega, by omega⟩, ?_⟩; (conv => whnf))))
    refine call_of hap ?_
    rintro v F8 ⟨us, hU, hup, E8⟩
    obtain ⟨A8, c8, rfl, hc8, hr8⟩ := hU.out
    have E38 := E37.trans E8
    have hrp := refApply xs ys ds A0 A1 C c0 c1 cc F8 (ha.mono E38) (hb.mono E38) (hC.mono E38) (by omega) (by omega) (by omega) hc0 (fun r hr => (hoa r hr).mono E38) (fun r hr => (hob r hr).mono E38) (fun r hr => (hod r hr).mono E38)
    ((conv => whnf); repeat (first | (apply load_at; (conv => lhs; whnf); (with_reducible assumption); rfl; (conv => whnf)) | (apply load_at; (conv => lhs; rw [add_plain, add_plain]); (with_reducible assumption); rfl; (conv => whnf)) | (apply loads_at; (conv => lhs; whnf); (with_reducible assumption); rfl; (conv => whnf)) | (refine ⟨⟨by omega, by omega⟩, ?_⟩; (conv => whnf))))
    refine call_of hrp ?_
    rintro v F9 ⟨ws, hW, hwp, E9⟩
    obtain ⟨A9, c9, rfl, hc9, hr9⟩ := hW.out
    have hlu : us.length ≤ 100000 := by
      have h1 := congrArg List.length hup
      have h2 := applyL_len (xs.map pd) (ys.map pd) (ds.map BR.k)
      rw [List.length_map] at h1 h2
      rw [List.length_map] at h2
      omega
    have hpq := plainPairs us ws A8 A9 c8 c9 F9 (hr8.mono E9) hr9 (fun r hr => ((hU.ok r hr).mono E9).ok) (fun r hr => (hW.ok r hr).ok) hlu
    rw [hup, hwp, beq_self_eq_true] at hpq
    ((conv => whnf); repeat (first | (apply load_at; (conv => lhs; whnf); (with_reducible assumption); rfl; (conv => whnf)) | (apply load_at; (conv => lhs; rw [add_plain, add_plain]); (with_reducible assumption); rfl; (conv => whnf)) | (apply loads_at; (conv => lhs; whnf); (with_reducible assumption); rfl; (conv => whnf)) | (refine ⟨⟨by omega, by omega⟩, ?_⟩; (conv => whnf))))
    refine call_of hpq ?_
    rintro v F10 ⟨rfl, E10⟩
    have E310 := (E38.trans E9).trans E10
    have hri := right xs A0 c0 F10 (ha.mono E310) (by omega) hc0 (fun r hr => ((hoa r hr).mono E310).ok.1)
    have hrr := fun F' (hE : Ext F10 F') => refRight xs A0 c0 F' ((ha.mono E310).mono hE) (by omega) (fun r hr => (((hoa r hr).mono E310).mono hE).ok.1)
    generalize risB (xs.map PR.k) = q at hri hrr
    ((conv => whnf); repeat (first | (apply load_at; (conv => lhs; whnf); (with_reducible assumption); rfl; (conv => whnf)) | (apply load_at; (conv => lhs; rw [add_plain, add_plain]); (with_reducible assumption); rfl; (conv => whnf)) | (apply loads_at; (conv => lhs; whnf); (with_reducible assumption); rfl; (conv => whnf)) | (refine ⟨⟨by omega, by omega⟩, ?_⟩; (conv => whnf))))
    refine call_of hri ?_
    rintro v F11 ⟨rfl, E11⟩
    ((conv => whnf); repeat (first | (apply load_at; (conv => lhs; whnf); (with_reducible assumption); rfl; (conv => whnf)) | (apply load_at; (conv => lhs; rw [add_plain, add_plain]); (with_reducible assumption); rfl; (conv => whnf)) | (apply loads_at; (conv => lhs; whnf); (with_reducible assumption); rfl; (conv => whnf)) | (refine ⟨⟨by omega, by omega⟩, ?_⟩; (conv => whnf))))
    refine call_of (hrr F11 E11) ?_
    rintro v F12 ⟨rfl, rfl⟩
    ((conv => whnf); repeat (first | (apply load_at; (conv => lhs; whnf); (with_reducible assumption); rfl; (conv => whnf)) | (apply load_at; (conv => lhs; rw [add_plain, add_plain]); (with_reducible assumption); rfl; (conv => whnf)) | (apply loads_at; (conv => lhs; whnf); (with_reducible assumption); rfl; (conv => whnf)) | (refine ⟨⟨by omega, by omega⟩, ?_⟩; (conv => whnf))))
    refine cond_split (fun h => ?_) (fun h => absurd (show (q == q) = false from h) (by simp))
    ((conv => whnf); repeat (first | (apply load_at; (conv => lhs; whnf); (with_reducible assumption); rfl; (conv => whnf)) | (apply load_at; (conv => lhs; rw [add_plain, add_plain]); (with_reducible assumption); rfl; (conv => whnf)) | (apply loads_at; (conv => lhs; whnf); (with_reducible assumption); rfl; (conv => whnf)) | (refine ⟨⟨by omega, by omega⟩, ?_⟩; (conv => whnf))))
    refine call_of (Al.awake F12) ?_
    rintro v F13 ⟨rfl, E13⟩
    ((conv => whnf); repeat (first | (apply load_at; (conv => lhs; whnf); (with_reducible assumption); rfl; (conv => whnf)) | (apply load_at; (conv => lhs; rw [add_plain, add_plain]); (with_reducible assumption); rfl; (conv => whnf)) | (apply loads_at; (conv => lhs; whnf); (with_reducible assumption); rfl; (conv => whnf)) | (refine ⟨⟨by omega, by omega⟩, ?_⟩; (conv => whnf))))
    exact ⟨rfl, E02.trans (E310.trans (E11.trans E13))⟩
end Go.Proofs.Ytlkdbmoocajjlaa.AlDiffTells

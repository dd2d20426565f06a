/- The law DiskLives holds of the program: proved over what is known of memory, each function by its contract. -/
import Derived.Test.YtlkdbmoocajjlaaAlLawDiskLives
import Derived.Test.YtlkdbmoocajjlaaDskP
namespace Go.Proofs.Ytlkdbmoocajjlaa.AlDiskLives
open Go Go.Al Go.Proofs Go.RowKit Go.Proofs.Ytlkdbmoocajjlaa.Al
set_option maxHeartbeats 8000000
set_option maxRecDepth 100000
set_option linter.unusedVariables false
set_option linter.unusedSimpArgs false
abbrev dkZ : Obj := .cells #[.int .i64 0, .int .i64 0, .int .u8 0, .slice none 0 0] 34
theorem one4 (r : DoR) : ∀ v ∈ doC r, v.oneCell' = true := by simp [doC, Value.oneCell']
theorem apart_new {F D F' : Heap} (h : Moves emptyH F D F') : Apart D F := fun c hc => by
  rcases h.new c hc with h1 | h1
  · exact absurd rfl h1
  · exact h1
theorem law : LawK := by
  intro F n w0 x1 w1 A1 c1 hc1 hK1
  obtain ⟨rs, hrl, hrow, hok⟩ := do_open w1.2 hK1
  rw [← hrl]
  clear hK1 w1
  have hwn := wf_i64 w0
  clear w0
  (refine fn_walk tab_ok Try.func3 rfl rfl rfl rfl ?_; (conv => whnf))
  refine cond_split (fun h => ?_) (fun h => ?_)
  · have h : decide (n > 64) = true := h
    have h64 := of_decide_eq_true h
    ((conv => whnf); repeat (first | (apply load_at; (conv => lhs; whnf); (with_reducible assumption); rfl; (conv => whnf)) | (apply load_at; (conv => lhs; rw [add_plain, add_plain]); (with_reducible assumption); rfl; (conv => whnf)) | (apply loads_at; (conv => lhs; whnf); (with_reducible assumption); rfl; (conv => whnf)) | (refine ⟨⟨by omega, by omega⟩, ?_⟩; (conv => whnf))))
    refine cond_split (fun h => ?_) (fun h => ?_)
    · ((conv => whnf); repeat (first | (apply load_at; (conv => lhs; whnf); (with_reducible assumption); rfl; (conv => whnf)) | (apply load_at; (conv => lhs; rw [add_plain, add_plain]); (with_reducible assumption); rfl; (conv => whnf)) | (apply loads_at; (conv => lhs; whnf); (with_reducible assumption); rfl; (conv => whnf)) | (refine ⟨⟨by omega, by omega⟩, ?_⟩; (conv => whnf))))
      refine call_of (Al.awake F) ?_
      rintro v F9 ⟨rfl, hF9⟩
      ((conv => whnf); repeat (first | (apply load_at; (conv => lhs; whnf); (with_reducible assumption); rfl; (conv => whnf)) | (apply load_at; (conv => lhs; rw [add_plain, add_plain]); (with_reducible assumption); rfl; (conv => whnf)) | (apply loads_at; (conv => lhs; whnf); (with_reducible assumption); rfl; (conv => whnf)) | (refine ⟨⟨by omega, by omega⟩, ?_⟩; (conv => whnf))))
      exact ⟨rfl, hF9⟩
    · have h : decide (n ≤ 65536) = false := h
      have h65 := of_decide_eq_false h
      ((conv => whnf); repeat (first | (apply load_at; (conv => lhs; whnf); (with_reducible assumption); rfl; (conv => whnf)) | (apply load_at; (conv => lhs; rw [add_plain, add_plain]); (with_reducible assumption); rfl; (conv => whnf)) | (apply loads_at; (conv => lhs; whnf); (with_reducible assumption); rfl; (conv => whnf)) | (refine ⟨⟨by omega, by omega⟩, ?_⟩; (conv => whnf))))
      refine call_of (new n F) ?_
      rintro v F1 h
      rcases h with ⟨h1, rfl, rfl⟩ | ⟨h1, h2, _⟩
      case inr => omega
      ((conv => whnf); repeat (first | (apply load_at; (conv => lhs; whnf); (with_reducible assumption); rfl; (conv => whnf)) | (apply load_at; (conv => lhs; rw [add_plain, add_plain]); (with_reducible assumption); rfl; (conv => whnf)) | (apply loads_at; (conv => lhs; whnf); (with_reducible assumption); rfl; (conv => whnf)) | (refine ⟨⟨by omega, by omega⟩, ?_⟩; (conv => whnf))))
      refine call_of (rnew n F1) ?_
      rintro v F2 h
      rcases h with ⟨h1, rfl, rfl⟩ | ⟨h1, h2, _⟩
      case inr => omega
      ((conv => whnf); repeat (first | (apply load_at; (conv => lhs; whnf); (with_reducible assumption); rfl; (conv => whnf)) | (apply load_at; (conv => lhs; rw [add_plain, add_plain]); (with_reducible assumption); rfl; (conv => whnf)) | (apply loads_at; (conv => lhs; whnf); (with_reducible assumption); rfl; (conv => whnf)) | (refine ⟨⟨by omega, by omega⟩, ?_⟩; (conv => whnf))))
      refine call_of (Al.awake F2) ?_
      rintro v F9 ⟨rfl, hF9⟩
      ((conv => whnf); repeat (first | (apply load_at; (conv => lhs; whnf); (with_reducible assumption); rfl; (conv => whnf)) | (apply load_at; (conv => lhs; rw [add_plain, add_plain]); (with_reducible assumption); rfl; (conv => whnf)) | (apply loads_at; (conv => lhs; whnf); (with_reducible assumption); rfl; (conv => whnf)) | (refine ⟨⟨by omega, by omega⟩, ?_⟩; (conv => whnf))))
      exact ⟨rfl, hF9⟩
  have h : decide (n > 64) = false := h
  have h64 := of_decide_eq_false h
  ((conv => whnf); repeat (first | (apply load_at; (conv => lhs; whnf); (with_reducible assumption); rfl; (conv => whnf)) | (apply load_at; (conv => lhs; rw [add_plain, add_plain]); (with_reducible assumption); rfl; (conv => whnf)) | (apply loads_at; (conv => lhs; whnf); (with_reducible assumption); rfl; (conv => whnf)) | (refine ⟨⟨by omega, by omega⟩, ?_⟩; (conv => whnf))))
  refine call_of (new n F) ?_
  rintro v F1 h
  rcases h with ⟨h1, rfl, rfl⟩ | ⟨h3, h4, b, D1, rfl, M1, K1⟩
  · ((conv => whnf); repeat (first | (apply load_at; (conv => lhs; whnf); (with_reducible assumption); rfl; (conv => whnf)) | (apply load_at; (conv => lhs; rw [add_plain, add_plain]); (with_reducible assumption); rfl; (conv => whnf)) | (apply loads_at; (conv => lhs; whnf); (with_reducible assumption); rfl; (conv => whnf)) | (refine ⟨⟨by omega, by omega⟩, ?_⟩; (conv => whnf))))
    refine call_of (rnew n F1) ?_
    rintro v F2 h
    rcases h with ⟨h1, rfl, rfl⟩ | ⟨h1, h2, _⟩
    case inr => omega
    ((conv => whnf); repeat (first | (apply load_at; (conv => lhs; whnf); (with_reducible assumption); rfl; (conv => whnf)) | (apply load_at; (conv => lhs; rw [add_plain, add_plain]); (with_reducible assumption); rfl; (conv => whnf)) | (apply loads_at; (conv => lhs; whnf); (with_reducible assumption); rfl; (conv => whnf)) | (refine ⟨⟨by omega, by omega⟩, ?_⟩; (conv => whnf))))
    refine call_of (Al.awake F2) ?_
    rintro v F9 ⟨rfl, hF9⟩
    ((conv => whnf); repeat (first | (apply load_at; (conv => lhs; whnf); (with_reducible assumption); rfl; (conv => whnf)) | (apply load_at; (conv => lhs; rw [add_plain, add_plain]); (with_reducible assumption); rfl; (conv => whnf)) | (apply loads_at; (conv => lhs; whnf); (with_reducible assumption); rfl; (conv => whnf)) | (refine ⟨⟨by omega, by omega⟩, ?_⟩; (conv => whnf))))
    exact ⟨rfl, hF9⟩
  ((conv => whnf); repeat (first | (apply load_at; (conv => lhs; whnf); (with_reducible assumption); rfl; (conv => whnf)) | (apply load_at; (conv => lhs; rw [add_plain, add_plain]); (with_reducible assumption); rfl; (conv => whnf)) | (apply loads_at; (conv => lhs; whnf); (with_reducible assumption); rfl; (conv => whnf)) | (refine ⟨⟨by omega, by omega⟩, ?_⟩; (conv => whnf))))
  refine call_of (rnew n F1) ?_
  rintro v F2 h
  rcases h with ⟨h1, _⟩ | ⟨_, _, xb, X2, rfl, M2, K2⟩
  · omega
  obtain ⟨m, rfl⟩ : ∃ m : Nat, n = m := ⟨n.toNat, by omega⟩
  rw [Int.toNat_natCast] at K2
  have E1 : Ext F F1 := fun c o hc => M1.out c o hc rfl
  have E2 : Ext F1 F2 := fun c o hc => M2.out c o hc rfl
  have H2 : Both F2 D1 X2 b xb (newS (m : Int)) (newR m) := ⟨M1.inn.trans E2, M2.inn, K1, K2, (apart_new M2).symm.mono M1.inn⟩
  have aD : Apart D1 F := apart_new M1
  have aX : Apart X2 F := fun c hc => E1.none (apart_new M2 c hc)
  have hfw := few rs A1 c1 F2 (hrow.mono (E1.trans E2))
  have hfe : fewL rs = true → rs.length ≤ 60 ∧ ∀ r ∈ rs, r.keep.length ≤ 60 := fun h => by
    unfold fewL at h
    obtain ⟨h1, h2⟩ := Bool.and_eq_true_iff.1 h
    exact ⟨of_decide_eq_true h1, fun r hr => of_decide_eq_true (List.all_eq_true.1 h2 r hr)⟩
  generalize fewL rs = fw at hfw hfe
  ((conv => whnf); repeat (first | (apply load_at; (conv => lhs; whnf); (with_reducible assumption); rfl; (conv => whnf)) | (apply load_at; (conv => lhs; rw [add_plain, add_plain]); (with_reducible assumption); rfl; (conv => whnf)) | (apply loads_at; (conv => lhs; whnf); (with_reducible assumption); rfl; (conv => whnf)) | (refine ⟨⟨by omega, by omega⟩, ?_⟩; (conv => whnf))))
  refine call_of hfw ?_
  rintro v F3 ⟨rfl, E3⟩
  have E03 := (E1.trans E2).trans E3
  ((conv => whnf); repeat (first | (apply load_at; (conv => lhs; whnf); (with_reducible assumption); rfl; (conv => whnf)) | (apply load_at; (conv => lhs; rw [add_plain, add_plain]); (with_reducible assumption); rfl; (conv => whnf)) | (apply loads_at; (conv => lhs; whnf); (with_reducible assumption); rfl; (conv => whnf)) | (refine ⟨⟨by omega, by omega⟩, ?_⟩; (conv => whnf))))
  refine cond_split (fun h => ?_) (fun h => ?_)
  · ((conv => whnf); repeat (first | (apply load_at; (conv => lhs; whnf); (with_reducible assumption); rfl; (conv => whnf)) | (apply load_at; (conv => lhs; rw [add_plain, add_plain]); (with_reducible assumption); rfl; (conv => whnf)) | (apply loads_at; (conv => lhs; whnf); (with_reducible assumption); rfl; (conv => whnf)) | (refine ⟨⟨by omega, by omega⟩, ?_⟩; (conv => whnf))))
    refine call_of (Al.awake F3) ?_
    rintro v F9 ⟨rfl, hF9⟩
    ((conv => whnf); repeat (first | (apply load_at; (conv => lhs; whnf); (with_reducible assumption); rfl; (conv => whnf)) | (apply load_at; (conv => lhs; rw [add_plain, add_plain]); (with_reducible assumption); rfl; (conv => whnf)) | (apply loads_at; (conv => lhs; whnf); (with_reducible assumption); rfl; (conv => whnf)) | (refine ⟨⟨by omega, by omega⟩, ?_⟩; (conv => whnf))))
    exact ⟨rfl, E03.trans hF9⟩
  refine short [0, 1, 5, 7] [.int .i64 (m : Int), .slice A1 rs.length c1, .pointer (some ⟨b, 0, none⟩), .pointer (some ⟨xb, 0, none⟩)] rfl fun ρ => ?_
  have hfw2 : fw = true := by cases fw with
    | true => rfl
    | false => exact absurd h (by decide)
  obtain ⟨hl, hkl⟩ := hfe hfw2
  obtain ⟨H3, T3⟩ := H2.ext E3
  have S0 := sim_new m
  have szw : (newS (m : Int)).size = m := rfl
  have wrw : (newS (m : Int)).writes = 0 := rfl
  ((conv => whnf); repeat (first | (apply load_at; (conv => lhs; whnf); (with_reducible assumption); rfl; (conv => whnf)) | (apply load_at; (conv => lhs; rw [add_plain, add_plain]); (with_reducible assumption); rfl; (conv => whnf)) | (apply loads_at; (conv => lhs; whnf); (with_reducible assumption); rfl; (conv => whnf)) | (refine ⟨⟨by omega, by omega⟩, ?_⟩; (conv => whnf))))
  refine loop_slots [0, 1, 5, 7, 46, 47, 48] (fun k vs F' => ∃ (j : Nat) (D X : Heap) (s : DS) (r : RS), j + k = rs.length ∧ vs = [.int .i64 (m : Int), .slice A1 rs.length c1, .pointer (some ⟨b, 0, none⟩), .pointer (some ⟨xb, 0, none⟩), .slice A1 rs.length c1, .int .i64 (rs.length : Int), .int .i64 (j : Int)] ∧ Both F' D X b xb s r ∧ Sim s r ∧ Ext F F' ∧ Apart D F ∧ Apart X F ∧ s.writes ≤ j ∧ s.size = m) rs.length ⟨0, D1, X2, _, _, by omega, rfl, H3, S0, E03, aD, aX, by rw [wrw]; omega, szw⟩ ?_
  clear H2 H3 T3 S0 aD aX szw wrw E03 E3 E2 E1 M1 M2 K1 K2 hfw hfe
  rintro k vs F4 ρ ⟨j, D, X, s, r, hjk, rfl, H, hS, hE, aD, aX, hw, hsz⟩
  ((conv => whnf); repeat (first | (apply load_at; (conv => lhs; whnf); (with_reducible assumption); rfl; (conv => whnf)) | (apply load_at; (conv => lhs; rw [add_plain, add_plain]); (with_reducible assumption); rfl; (conv => whnf)) | (apply loads_at; (conv => lhs; whnf); (with_reducible assumption); rfl; (conv => whnf)) | (refine ⟨⟨by omega, by omega⟩, ?_⟩; (conv => whnf))))
  refine cond_split (fun h => ?_) (fun h => ?_)
  · have hj : j < rs.length := by have := of_decide_eq_true h; omega
    obtain ⟨ad, rfl⟩ := hrow.some (by rw [rowS_len doC_len]; omega)
    obtain ⟨o, ho⟩ : ∃ o, rs[j]? = some o := ⟨_, List.getElem?_eq_getElem hj⟩
    have hom := List.mem_of_getElem? ho
    ((conv => whnf); repeat (first | (apply load_at; (conv => lhs; whnf); (with_reducible assumption); rfl; (conv => whnf)) | (apply load_at; (conv => lhs; rw [add_plain, add_plain]); (with_reducible assumption); rfl; (conv => whnf)) | (apply loads_at; (conv => lhs; whnf); (with_reducible assumption); rfl; (conv => whnf)) | (refine ⟨⟨by omega, by omega⟩, ?_⟩; (conv => whnf))))
    refine rowS_loads doC_len (by decide) (hrow.mono hE) ho ?_
    ((conv => whnf); repeat (first | (apply load_at; (conv => lhs; whnf); (with_reducible assumption); rfl; (conv => whnf)) | (apply load_at; (conv => lhs; rw [add_plain, add_plain]); (with_reducible assumption); rfl; (conv => whnf)) | (apply loads_at; (conv => lhs; whnf); (with_reducible assumption); rfl; (conv => whnf)) | (refine ⟨⟨by omega, by omega⟩, ?_⟩; (conv => whnf))))
    refine new_step (dkZ) rfl fun g h0_g => ?_
    have hU_g := Heap.put_same F4 g (dkZ)
    have hX_g := fun o => (ext_put_put h0_g (o := dkZ) (o' := o))
    generalize F4.put g (dkZ) = F5 at hU_g hX_g ⊢
    (conv => whnf)
    refine store_step g 0 _ ((doC o).toArray) rfl hU_g rfl rfl (.inl (Nat.le_refl 0)) (one4 o) ?_
    have hB_g := Heap.put_same F5 g (.cells (doC o).toArray 34)
    have hE_g := hX_g (.cells (doC o).toArray 34)
    clear hU_g hX_g
    generalize F5.put g _ = F5 at hB_g hE_g ⊢
    obtain ⟨H5, T5⟩ := H.ext hE_g
    have hdo := does H5 hS (hE.trans hE_g) aD aX o (hok o hom) (hkl o hom) (by omega)
    have E5 := hE.trans hE_g
    refine short [0, 1, 5, 7, 10, 46, 47, 48] [.int .i64 (m : Int), .slice (some ad) rs.length c1, .pointer (some ⟨b, 0, none⟩), .pointer (some ⟨xb, 0, none⟩), .pointer (some ⟨g, 0, none⟩), .slice (some ad) rs.length c1, .int .i64 (rs.length : Int), .int .i64 (j : Int)] rfl fun ρ => ?_
    ((conv => whnf); repeat (first | (apply load_at; (conv => lhs; whnf); (with_reducible assumption); rfl; (conv => whnf)) | (apply load_at; (conv => lhs; rw [add_plain, add_plain]); (with_reducible assumption); rfl; (conv => whnf)) | (apply loads_at; (conv => lhs; whnf); (with_reducible assumption); rfl; (conv => whnf)) | (refine ⟨⟨by omega, by omega⟩, ?_⟩; (conv => whnf))))
    refine draw_tree_at tab_ok (by kernel_rfl) [] (DT.row [0, 1, 2, 3, 4, 5, 6, 8, 7, 9, 10, 11, 12, 13, 14, 16, 17, 18, 19, 15, 20, 21, 22, 23, 25, 26, 27, 28, 24, 29, 30, 31, 32, 34, 33, 35, 36] .nil) (by kernel_rfl) (fun _ => none) (fun _ _ h => by cases h) ?_
    ((conv => whnf); repeat (first | (apply load_at; (conv => lhs; whnf); (with_reducible assumption); rfl; (conv => whnf)) | (apply load_at; (conv => lhs; rw [add_plain, add_plain]); (with_reducible assumption); rfl; (conv => whnf)) | (apply loads_at; (conv => lhs; whnf); (with_reducible assumption); rfl; (conv => whnf)) | (refine ⟨⟨by omega, by omega⟩, ?_⟩; (conv => whnf))))
    refine call_of hdo ?_
    rintro v F6 ⟨rfl, D', X', s', r', H6, hS6, T6, hw6, hz6⟩
    have sD := hS6.wr
    have sN := hS6.dn
    have ht : r'.turn ≤ 1000 := by
      have h1 := H6.dk.1.ord
      rw [hS6.tn]
      omega
    have hp := sim_pending hS6 H6.dk.1
    obtain ⟨E6, aD6, aX6⟩ := T6 F E5 aD aX
    have hc1 := fun F hE => pending (D := D') (F := F) (b := b) (s := s') hE H6.dk
    have hc2 := fun F hE => rpending (D := X') (F := F) (b := xb) (r := r') hE H6.rk ht
    rw [hp] at hc2
    have hol : s'.order.length ≤ 100000 := by have := H6.dk.1.ord; omega
    have hc3 := fun F hE => dk_writes (D := D') (F := F) (b := b) (s := s') hE H6.dk
    have hc4 := fun F hE => dk_down (D := D') (F := F) (b := b) (s := s') hE H6.dk
    have hc5 := fun F hE => dk_size (D := D') (F := F) (b := b) (s := s') hE H6.dk
    rw [hS6.wr] at hc3
    rw [hS6.dn] at hc4
    rw [hz6, hsz] at hc5
    (conv => whnf)
    refine ⟨(fun _ _ h => by cases h), ?_⟩
    ((conv => whnf); repeat (first | (apply load_at; (conv => lhs; whnf); (with_reducible assumption); rfl; (conv => whnf)) | (apply load_at; (conv => lhs; rw [add_plain, add_plain]); (with_reducible assumption); rfl; (conv => whnf)) | (apply loads_at; (conv => lhs; whnf); (with_reducible assumption); rfl; (conv => whnf)) | (refine ⟨⟨by omega, by omega⟩, ?_⟩; (conv => whnf))))
    refine call_of (hc1 F6 H6.d) ?_
    rintro v F7 ⟨A7, d7, rfl, _, r7, _, E7⟩
    (conv => whnf)
    refine ⟨(fun _ _ h => by cases h), ?_⟩
    ((conv => whnf); repeat (first | (apply load_at; (conv => lhs; whnf); (with_reducible assumption); rfl; (conv => whnf)) | (apply load_at; (conv => lhs; rw [add_plain, add_plain]); (with_reducible assumption); rfl; (conv => whnf)) | (apply loads_at; (conv => lhs; whnf); (with_reducible assumption); rfl; (conv => whnf)) | (refine ⟨⟨by omega, by omega⟩, ?_⟩; (conv => whnf))))
    refine call_of (hc2 F7 (H6.x.trans E7)) ?_
    rintro v F8 ⟨A8, d8, rfl, r8, E8⟩
    have hq := slicesEqual s'.order s'.order A7 A8 d7 d8 F8 (r7.mono E8) r8 hol hol
    rw [beq_self_eq_true] at hq
    (conv => whnf)
    refine ⟨(fun _ _ h => by cases h), ?_⟩
    ((conv => whnf); repeat (first | (apply load_at; (conv => lhs; whnf); (with_reducible assumption); rfl; (conv => whnf)) | (apply load_at; (conv => lhs; rw [add_plain, add_plain]); (with_reducible assumption); rfl; (conv => whnf)) | (apply loads_at; (conv => lhs; whnf); (with_reducible assumption); rfl; (conv => whnf)) | (refine ⟨⟨by omega, by omega⟩, ?_⟩; (conv => whnf))))
    refine call_of hq ?_
    rintro v F9 ⟨rfl, rfl⟩
    (conv => whnf)
    refine ⟨(fun _ _ h => by cases h), ?_⟩
    obtain ⟨hwx, q, os, G, hPx⟩ := H6.rk
    have hxb := E8 _ _ (E7 _ _ (H6.x _ _ hPx.cell))
    ((conv => whnf); repeat (first | (apply load_at; (conv => lhs; whnf); (with_reducible assumption); rfl; (conv => whnf)) | (apply load_at; (conv => lhs; rw [add_plain, add_plain]); (with_reducible assumption); rfl; (conv => whnf)) | (apply loads_at; (conv => lhs; whnf); (with_reducible assumption); rfl; (conv => whnf)) | (refine ⟨⟨by omega, by omega⟩, ?_⟩; (conv => whnf))))
    refine call_of (hc3 F9 ((H6.d.trans E7).trans E8)) ?_
    rintro v F10 ⟨rfl, rfl⟩
    (conv => whnf)
    refine ⟨(fun _ _ h => by cases h), Ext.refl _, ?_⟩
    ((conv => whnf); repeat (first | (apply load_at; (conv => lhs; whnf); (with_reducible assumption); rfl; (conv => whnf)) | (apply load_at; (conv => lhs; rw [add_plain, add_plain]); (with_reducible assumption); rfl; (conv => whnf)) | (apply loads_at; (conv => lhs; whnf); (with_reducible assumption); rfl; (conv => whnf)) | (refine ⟨⟨by omega, by omega⟩, ?_⟩; (conv => whnf))))
    (refine cond_split (fun _ => ?_) (fun h_ => absurd h_ (by simp)); (conv => whnf))
    ((conv => whnf); repeat (first | (apply load_at; (conv => lhs; whnf); (with_reducible assumption); rfl; (conv => whnf)) | (apply load_at; (conv => lhs; rw [add_plain, add_plain]); (with_reducible assumption); rfl; (conv => whnf)) | (apply loads_at; (conv => lhs; whnf); (with_reducible assumption); rfl; (conv => whnf)) | (refine ⟨⟨by omega, by omega⟩, ?_⟩; (conv => whnf))))
    refine call_of (hc4 F10 ((H6.d.trans E7).trans E8)) ?_
    rintro v F11 ⟨rfl, rfl⟩
    (conv => whnf)
    refine ⟨(fun _ _ h => by cases h), Ext.refl _, ?_⟩
    ((conv => whnf); repeat (first | (apply load_at; (conv => lhs; whnf); (with_reducible assumption); rfl; (conv => whnf)) | (apply load_at; (conv => lhs; rw [add_plain, add_plain]); (with_reducible assumption); rfl; (conv => whnf)) | (apply loads_at; (conv => lhs; whnf); (with_reducible assumption); rfl; (conv => whnf)) | (refine ⟨⟨by omega, by omega⟩, ?_⟩; (conv => whnf))))
    (refine cond_split (fun _ => ?_) (fun h_ => absurd h_ (by simp)); (conv => whnf))
    ((conv => whnf); repeat (first | (apply load_at; (conv => lhs; whnf); (with_reducible assumption); rfl; (conv => whnf)) | (apply load_at; (conv => lhs; rw [add_plain, add_plain]); (with_reducible assumption); rfl; (conv => whnf)) | (apply loads_at; (conv => lhs; whnf); (with_reducible assumption); rfl; (conv => whnf)) | (refine ⟨⟨by omega, by omega⟩, ?_⟩; (conv => whnf))))
    refine call_of (hc5 F11 ((H6.d.trans E7).trans E8)) ?_
    rintro v F12 ⟨rfl, rfl⟩
    (conv => whnf)
    refine ⟨(fun _ _ h => by cases h), ?_⟩
    ((conv => whnf); repeat (first | (apply load_at; (conv => lhs; whnf); (with_reducible assumption); rfl; (conv => whnf)) | (apply load_at; (conv => lhs; rw [add_plain, add_plain]); (with_reducible assumption); rfl; (conv => whnf)) | (apply loads_at; (conv => lhs; whnf); (with_reducible assumption); rfl; (conv => whnf)) | (refine ⟨⟨by omega, by omega⟩, ?_⟩; (conv => whnf))))
    refine cond_split (fun h_ => absurd h_ (by simp)) (fun h => ?_)
    refine short [0, 1, 5, 7, 46, 47, 48] [.int .i64 (m : Int), .slice (some ad) rs.length c1, .pointer (some ⟨b, 0, none⟩), .pointer (some ⟨xb, 0, none⟩), .slice (some ad) rs.length c1, .int .i64 (rs.length : Int), .int .i64 (j : Int)] rfl fun ρ => ?_
    ((conv => whnf); repeat (first | (apply load_at; (conv => lhs; whnf); (with_reducible assumption); rfl; (conv => whnf)) | (apply load_at; (conv => lhs; rw [add_plain, add_plain]); (with_reducible assumption); rfl; (conv => whnf)) | (apply loads_at; (conv => lhs; whnf); (with_reducible assumption); rfl; (conv => whnf)) | (refine ⟨⟨by omega, by omega⟩, ?_⟩; (conv => whnf))))
    refine ⟨k - 1, by omega, j + 1, D', X', s', r', by omega, ?_, (H6.ext (E7.trans E8)).1, hS6, E6.trans (E7.trans E8), aD6, aX6, by omega, by rw [hz6, hsz]⟩
    rw [← wrap_succ (j := j) (by omega)]
    rfl
  · have hj : j = rs.length := by have := of_decide_eq_false h; omega
    ((conv => whnf); repeat (first | (apply load_at; (conv => lhs; whnf); (with_reducible assumption); rfl; (conv => whnf)) | (apply load_at; (conv => lhs; rw [add_plain, add_plain]); (with_reducible assumption); rfl; (conv => whnf)) | (apply loads_at; (conv => lhs; whnf); (with_reducible assumption); rfl; (conv => whnf)) | (refine ⟨⟨by omega, by omega⟩, ?_⟩; (conv => whnf))))
    refine call_of (Al.awake F4) ?_
    rintro v F9 ⟨rfl, hF9⟩
    ((conv => whnf); repeat (first | (apply load_at; (conv => lhs; whnf); (with_reducible assumption); rfl; (conv => whnf)) | (apply load_at; (conv => lhs; rw [add_plain, add_plain]); (with_reducible assumption); rfl; (conv => whnf)) | (apply loads_at; (conv => lhs; whnf); (with_reducible assumption); rfl; (conv => whnf)) | (refine ⟨⟨by omega, by omega⟩, ?_⟩; (conv => whnf))))
    exact ⟨rfl, hE.trans hF9⟩
end Go.Proofs.Ytlkdbmoocajjlaa.AlDiskLives

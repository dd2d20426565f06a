/- The reference's disks: Pending, over what is known of memory. -/
import Derived.Test.YtlkdbmoocajjlaaDskK
namespace Go.Proofs.Ytlkdbmoocajjlaa.Al
open Go Go.Al Go.Proofs Go.RowKit
set_option maxHeartbeats 8000000
set_option maxRecDepth 100000
set_option linter.unusedVariables false
set_option linter.unusedSimpArgs false
/-- The places, from i on, of the sectors with the number t. -/
def idxs (t : Int) : Nat → List OD → List Int
  | _, [] => []
  | i, o :: L => if o.t = t then (i : Int) :: idxs t (i + 1) L else idxs t (i + 1) L
def rpendL (L : List OD) : Nat → Int → List Int
  | 0, _ => []
  | n + 1, t => idxs t 0 L ++ rpendL L n (t + 1)
theorem idxs_len (t : Int) : ∀ (L : List OD) (i : Nat), (idxs t i L).length ≤ L.length
  | [], i => Nat.le_refl _
  | o :: L, i => by
    have := idxs_len t L (i + 1)
    unfold idxs
    split
    · simp only [List.length_cons]; omega
    · simp only [List.length_cons]; omega
theorem rpendL_len (L : List OD) : ∀ (n : Nat) (t : Int), (rpendL L n t).length ≤ n * L.length
  | 0, t => Nat.zero_le _
  | n + 1, t => by
    have h1 := rpendL_len L n (t + 1)
    have h2 := idxs_len t L 0
    unfold rpendL
    rw [List.length_append, Nat.add_mul, Nat.one_mul]
    omega
theorem idxs_cons (t : Int) (i : Nat) (o : OD) (L : List OD) : idxs t i (o :: L) = if o.t = t then (i : Int) :: idxs t (i + 1) L else idxs t (i + 1) L := rfl
theorem rpending {D F : Heap} {b : Nat} {r : RS} (hE : Ext D F) (hD : Rk D b r) (ht : r.turn ≤ 1000) :
    FnK Try.prog 13 #[.pointer (some ⟨b, 0, none⟩)] F (fun v F' => ∃ A c, v = .slice A (rpendL r.L r.turn.toNat 1).length c ∧ RowAt F' A ((rpendL r.L r.turn.toNat 1).map (.int .i64)) ∧ Ext F F') := by
  obtain ⟨hwf, q, os, G, hP⟩ := hD
  have hb := hE _ _ hP.cell
  have hq := hE _ _ hP.row
  have hlen : r.L.length = os.length := by rw [hP.L, List.length_map]
  have hle := hwf.len
  have htn := hwf.turn
  obtain ⟨N, hN⟩ : ∃ N : Nat, r.turn = N := ⟨r.turn.toNat, by omega⟩
  have hlim : (rpendL r.L r.turn.toNat 1).length ≤ 65536000 := by
    have h1 := rpendL_len r.L r.turn.toNat 1
    have h2 : r.turn.toNat * r.L.length ≤ 1000 * 65536 := Nat.mul_le_mul (by omega) (by omega)
    omega
  have hget : ∀ j o, os[j]? = some o → r.L[j]? = some (od o) := fun j o h => by rw [hP.L, List.getElem?_map, h]; rfl
  have hst0 : ∃ R, R = rpendL r.L r.turn.toNat 1 := ⟨_, rfl⟩
  obtain ⟨R, hR⟩ := hst0
  rw [← hR] at hlim ⊢
  rw [show r.turn.toNat = N by omega] at hR
  rw [hN] at hb
  (refine fn_walk tab_ok Try.func13 rfl rfl rfl rfl ?_; (conv => whnf))
  ((conv => whnf); repeat (first | (apply load_at; (conv => lhs; whnf); (with_reducible assumption); rfl; (conv => whnf)) | (apply load_at; (conv => lhs; rw [add_plain, add_plain]); (with_reducible assumption); rfl; (conv => whnf)) | (apply loads_at; (conv => lhs; whnf); (with_reducible assumption); rfl; (conv => whnf)) | (refine ⟨⟨by omega, by omega⟩, ?_⟩; (conv => whnf))))
  refine loop_slots [0, 3, 4] (fun k vs F' => ∃ (m : Nat) (acc : List Int) (S : Value), m + k = N ∧ vs = [.pointer (some ⟨b, 0, none⟩), S, .int .i64 ((m + 1 : Nat) : Int)] ∧ Mine F F' S 3 1 acc.length (acc.map (.int .i64)) ∧ acc ++ rpendL r.L k ((m + 1 : Nat) : Int) = R) N ⟨0, [], .slice none 0 0, by omega, rfl, Mine.nil F F _ _ (Ext.refl _), by rw [hR]; rfl⟩ ?_
  rintro k vs F2 ρ ⟨m, acc, S, hmk, rfl, hM, hacc⟩
  have hb2 := hM.ext _ _ hb
  ((conv => whnf); repeat (first | (apply load_at; (conv => lhs; whnf); (with_reducible assumption); rfl; (conv => whnf)) | (apply load_at; (conv => lhs; rw [add_plain, add_plain]); (with_reducible assumption); rfl; (conv => whnf)) | (apply loads_at; (conv => lhs; whnf); (with_reducible assumption); rfl; (conv => whnf)) | (refine ⟨⟨by omega, by omega⟩, ?_⟩; (conv => whnf))))
  refine cond_split (fun h => ?_) (fun h => ?_)
  · have hm : m < N := by have := of_decide_eq_true h; omega
    obtain ⟨k, rfl⟩ : ∃ k', k = k' + 1 := ⟨k - 1, by omega⟩
    have hwm : IntKind.i64.wrap (((m + 1 : Nat) : Int) + 1) = ((m + 1 + 1 : Nat) : Int) := wrap_succ (by omega)
    have hacc2 : acc ++ (idxs ((m + 1 : Nat) : Int) 0 r.L ++ rpendL r.L k ((m + 1 + 1 : Nat) : Int)) = R := hacc
    rw [← List.append_assoc] at hacc2
    clear hacc
    generalize hrest : rpendL r.L k ((m + 1 + 1 : Nat) : Int) = rest at hacc2
    obtain ⟨T, hT⟩ : ∃ T, T = acc ++ idxs ((m + 1 : Nat) : Int) 0 r.L := ⟨_, rfl⟩
    rw [← hT] at hacc2
    have hTl : T.length ≤ 65536000 := by have := congrArg List.length hacc2; rw [List.length_append] at this; omega
    ((conv => whnf); repeat (first | (apply load_at; (conv => lhs; whnf); (with_reducible assumption); rfl; (conv => whnf)) | (apply load_at; (conv => lhs; rw [add_plain, add_plain]); (with_reducible assumption); rfl; (conv => whnf)) | (apply loads_at; (conv => lhs; whnf); (with_reducible assumption); rfl; (conv => whnf)) | (refine ⟨⟨by omega, by omega⟩, ?_⟩; (conv => whnf))))
    refine loop_slots [0, 3, 4, 5] (fun k vs F' => ∃ (j : Nat) (ac : List Int) (S : Value), j + k = os.length ∧ vs = [.pointer (some ⟨b, 0, none⟩), S, .int .i64 ((m + 1 : Nat) : Int), .int .i64 (j : Int)] ∧ Mine F F' S 3 1 ac.length (ac.map (.int .i64)) ∧ ac ++ idxs ((m + 1 : Nat) : Int) j (r.L.drop j) = T) os.length ⟨0, acc, S, by omega, rfl, hM, by rw [hT]; rfl⟩ ?_
    rintro k2 vs F3 ρ ⟨j, ac, S, hjk, rfl, hM, hac⟩
    have hb3 := hM.ext _ _ hb
    have hq3 := hM.ext _ _ hq
    obtain ⟨A, c, rfl, hc, hr⟩ := hM.own.row
    ((conv => whnf); repeat (first | (apply load_at; (conv => lhs; whnf); (with_reducible assumption); rfl; (conv => whnf)) | (apply load_at; (conv => lhs; rw [add_plain, add_plain]); (with_reducible assumption); rfl; (conv => whnf)) | (apply loads_at; (conv => lhs; whnf); (with_reducible assumption); rfl; (conv => whnf)) | (refine ⟨⟨by omega, by omega⟩, ?_⟩; (conv => whnf))))
    refine cond_split (fun h => ?_) (fun h => ?_)
    · have hj : j < os.length := by have := of_decide_eq_true h; omega
      obtain ⟨o, ho⟩ : ∃ o, os[j]? = some o := ⟨_, List.getElem?_eq_getElem hj⟩
      have hdr : r.L.drop j = od o :: r.L.drop (j + 1) := by
        have h1 := hget j o ho
        obtain ⟨h2, h3⟩ := List.getElem?_eq_some_iff.1 h1
        rw [List.drop_eq_getElem_cons h2, h3]
      rw [hdr, idxs_cons] at hac
      have hacl : ac.length ≤ 65536000 := by have := congrArg List.length hac; rw [List.length_append] at this; omega
      have hws : IntKind.i64.wrap ((j : Int) + 1) = ((j + 1 : Nat) : Int) := wrap_succ (by omega)
      ((conv => whnf); repeat (first | (apply load_at; (conv => lhs; whnf); (with_reducible assumption); rfl; (conv => whnf)) | (apply load_at; (conv => lhs; rw [add_plain, add_plain]); (with_reducible assumption); rfl; (conv => whnf)) | (apply loads_at; (conv => lhs; whnf); (with_reducible assumption); rfl; (conv => whnf)) | (refine ⟨⟨by omega, by omega⟩, ?_⟩; (conv => whnf))))
      refine load_at (ad3 q j 2) hq3 (os_get ho rfl) ?_
      ((conv => whnf); repeat (first | (apply load_at; (conv => lhs; whnf); (with_reducible assumption); rfl; (conv => whnf)) | (apply load_at; (conv => lhs; rw [add_plain, add_plain]); (with_reducible assumption); rfl; (conv => whnf)) | (apply loads_at; (conv => lhs; whnf); (with_reducible assumption); rfl; (conv => whnf)) | (refine ⟨⟨by omega, by omega⟩, ?_⟩; (conv => whnf))))
      refine cond_split (fun h => ?_) (fun h => ?_)
      · have h : (o.t == ((m + 1 : Nat) : Int)) = true := h
        have ht : (od o).t = ((m + 1 : Nat) : Int) := by have : o.t = ((m + 1 : Nat) : Int) := by simpa using h
                                                         exact this
        rw [if_pos ht] at hac
        refine short [0, 3, 4, 5] [.pointer (some ⟨b, 0, none⟩), .slice A ac.length c, .int .i64 ((m + 1 : Nat) : Int), .int .i64 (j : Int)] rfl fun ρ => ?_
        ((conv => whnf); repeat (first | (apply load_at; (conv => lhs; whnf); (with_reducible assumption); rfl; (conv => whnf)) | (apply load_at; (conv => lhs; rw [add_plain, add_plain]); (with_reducible assumption); rfl; (conv => whnf)) | (apply loads_at; (conv => lhs; whnf); (with_reducible assumption); rfl; (conv => whnf)) | (refine ⟨⟨by omega, by omega⟩, ?_⟩; (conv => whnf))))
        refine new_step (.cells #[.int .i64 (j : Int)] 3) rfl fun g hgn => ?_
        have hX := Ext.new hgn (.cells #[.int .i64 (j : Int)] 3)
        have hG := Heap.put_same F3 g (.cells #[.int .i64 (j : Int)] 3)
        replace hM := hM.mono hX
        generalize F3.put g _ = F4 at hG hM ⊢
        ((conv => whnf); repeat (first | (apply load_at; (conv => lhs; whnf); (with_reducible assumption); rfl; (conv => whnf)) | (apply load_at; (conv => lhs; rw [add_plain, add_plain]); (with_reducible assumption); rfl; (conv => whnf)) | (apply loads_at; (conv => lhs; whnf); (with_reducible assumption); rfl; (conv => whnf)) | (refine ⟨⟨by omega, by omega⟩, ?_⟩; (conv => whnf))))
        refine append_mine tab_ok (m := 1) (ys := [.int .i64 (j : Int)]) (y := .slice (some ⟨g, 0, none⟩) 1 1) rfl rfl rfl rfl rfl ⟨_, rfl, fun k h => by cases h⟩ ⟨_, rfl, rfl⟩ (by decide) hM ⟨rfl, .inl ⟨_, _, rfl, fun j v hj => ⟨_, rfl, by rw [add_plain, Heap.cell_at hG, Nat.zero_add, ← Array.getElem?_toList]; exact hj⟩⟩⟩ (fun v hv => by rw [List.mem_singleton.1 hv]; rfl) (by show 2 * (ac.length + 1) * 8 ≤ _; omega) fun S5 F5 hM5 hk => ?_
        have hM' : Mine F F5 S5 3 1 (ac ++ [(j : Int)]).length ((ac ++ [(j : Int)]).map (.int .i64)) := by
          rw [List.length_append, List.map_append]; exact hM5
        ((conv => whnf); repeat (first | (apply load_at; (conv => lhs; whnf); (with_reducible assumption); rfl; (conv => whnf)) | (apply load_at; (conv => lhs; rw [add_plain, add_plain]); (with_reducible assumption); rfl; (conv => whnf)) | (apply loads_at; (conv => lhs; whnf); (with_reducible assumption); rfl; (conv => whnf)) | (refine ⟨⟨by omega, by omega⟩, ?_⟩; (conv => whnf))))
        refine ⟨k2 - 1, by omega, j + 1, ac ++ [(j : Int)], S5, by omega, ?_, hM', ?_⟩
        · rw [← hws]
          rfl
        · rw [List.append_assoc]; exact hac
      · have h : (o.t == ((m + 1 : Nat) : Int)) = false := h
        have ht : ¬ (od o).t = ((m + 1 : Nat) : Int) := by have : ¬ o.t = ((m + 1 : Nat) : Int) := by simpa using h
                                                           exact this
        rw [if_neg ht] at hac
        ((conv => whnf); repeat (first | (apply load_at; (conv => lhs; whnf); (with_reducible assumption); rfl; (conv => whnf)) | (apply load_at; (conv => lhs; rw [add_plain, add_plain]); (with_reducible assumption); rfl; (conv => whnf)) | (apply loads_at; (conv => lhs; whnf); (with_reducible assumption); rfl; (conv => whnf)) | (refine ⟨⟨by omega, by omega⟩, ?_⟩; (conv => whnf))))
        refine ⟨k2 - 1, by omega, j + 1, ac, _, by omega, ?_, hM, hac⟩
        rw [← hws]
        rfl
    · have hj : j = os.length := by have := of_decide_eq_false h; omega
      subst hj
      rw [← hlen, List.drop_length] at hac
      have hac : ac = T := by rw [← hac]; exact (List.append_nil _).symm
      subst hac
      ((conv => whnf); repeat (first | (apply load_at; (conv => lhs; whnf); (with_reducible assumption); rfl; (conv => whnf)) | (apply load_at; (conv => lhs; rw [add_plain, add_plain]); (with_reducible assumption); rfl; (conv => whnf)) | (apply loads_at; (conv => lhs; whnf); (with_reducible assumption); rfl; (conv => whnf)) | (refine ⟨⟨by omega, by omega⟩, ?_⟩; (conv => whnf))))
      refine ⟨k, by omega, m + 1, ac, _, by omega, ?_, hM, by rw [hrest]; exact hacc2⟩
      rw [← hwm]
      rfl
  · have hm : m = N := by have := of_decide_eq_false h; omega
    subst hm
    obtain rfl : k = 0 := by omega
    have hacc : acc = R := by rw [← hacc]; exact (List.append_nil _).symm
    subst hacc
    obtain ⟨A, c, rfl, hc, hr⟩ := hM.own.row
    ((conv => whnf); repeat (first | (apply load_at; (conv => lhs; whnf); (with_reducible assumption); rfl; (conv => whnf)) | (apply load_at; (conv => lhs; rw [add_plain, add_plain]); (with_reducible assumption); rfl; (conv => whnf)) | (apply loads_at; (conv => lhs; whnf); (with_reducible assumption); rfl; (conv => whnf)) | (refine ⟨⟨by omega, by omega⟩, ?_⟩; (conv => whnf))))
    exact ⟨A, c, rfl, hr, hM.ext⟩
end Go.Proofs.Ytlkdbmoocajjlaa.Al

/- Rising keys in plain Lean; diff.own, find and Right, slices.BinarySearchFunc of pairs, over what is known of memory. -/
import Derived.Test.YtlkdbmoocajjlaaDfA
namespace Go.Proofs.Ytlkdbmoocajjlaa.Al
open Go Go.Al Go.Proofs Go.RowKit
set_option maxHeartbeats 8000000
set_option maxRecDepth 100000
set_option linter.unusedVariables false
set_option linter.unusedSimpArgs false
abbrev Rises (l : List (List UInt8)) : Prop := l.Pairwise fun x y => ltB x y = true
def risB : List (List UInt8) → Bool
  | a :: b :: l => ltB a b && risB (b :: l)
  | _ => true
theorem risB_cons (a b : List UInt8) (l : List (List UInt8)) : risB (a :: b :: l) = (ltB a b && risB (b :: l)) := rfl
theorem risB_iff : ∀ l : List (List UInt8), risB l = true ↔ Rises l
  | [] => ⟨fun _ => List.Pairwise.nil, fun _ => rfl⟩
  | [a] => ⟨fun _ => List.pairwise_singleton _ _, fun _ => rfl⟩
  | a :: b :: l => by
    rw [risB_cons, Bool.and_eq_true, risB_iff (b :: l)]
    show _ ↔ List.Pairwise _ (a :: b :: l)
    rw [List.pairwise_cons (a := a)]
    constructor
    · rintro ⟨h1, h2⟩
      refine ⟨fun x hx => ?_, h2⟩
      rcases List.mem_cons.1 hx with rfl | hx
      · exact h1
      · exact ltB_trans h1 ((List.pairwise_cons.1 h2).1 x hx)
    · rintro ⟨h1, h2⟩
      exact ⟨h1 b List.mem_cons_self, h2⟩
/-- How many keys stand ahead. -/
def lbN : List (List UInt8) → List UInt8 → Nat
  | [], _ => 0
  | x :: t, k => if ltB x k = true then lbN t k + 1 else 0
theorem lbN_cons (x : List UInt8) (t : List (List UInt8)) (k : List UInt8) : lbN (x :: t) k = if ltB x k = true then lbN t k + 1 else 0 := rfl
theorem lbN_le (k : List UInt8) : ∀ l : List (List UInt8), lbN l k ≤ l.length
  | [] => Nat.le_refl _
  | x :: t => by
    have := lbN_le k t
    rw [lbN_cons]
    split <;> simp only [List.length_cons] <;> omega
theorem lbN_iff {k : List UInt8} : ∀ {l : List (List UInt8)}, Rises l → ∀ (h : Nat) (x : List UInt8), l[h]? = some x → (ltB x k = true ↔ h < lbN l k)
  | [], _, h, x, hx => by cases hx
  | y :: t, hr, h, x, hx => by
    obtain ⟨h1, h2⟩ := List.pairwise_cons.1 hr
    rw [lbN_cons]
    cases h with
    | zero =>
      obtain rfl : y = x := by simpa using hx
      split
      · next e => exact ⟨fun _ => by omega, fun _ => e⟩
      · next e => exact ⟨fun e2 => absurd e2 e, fun e2 => by omega⟩
    | succ h =>
      have hx : t[h]? = some x := by simpa using hx
      have ih := lbN_iff (k := k) h2 h x hx
      split
      · rw [ih]; omega
      · next e =>
        refine ⟨fun e2 => absurd (ltB_trans (h1 x (List.mem_of_getElem? hx)) e2) e, fun e2 => by omega⟩
theorem lbN_mem {k : List UInt8} {l : List (List UInt8)} (hr : Rises l) : k ∈ l ↔ l[lbN l k]? = some k := by
  constructor
  · intro hm
    obtain ⟨j, hj⟩ := List.getElem?_of_mem hm
    have h1 := lbN_iff (k := k) hr j k hj
    rw [ltB_irrefl] at h1
    have h2 : ¬ j < lbN l k := fun h => by have := h1.2 h; cases this
    have hlt : j < l.length := (List.getElem?_eq_some_iff.1 hj).1
    by_cases e : lbN l k = j
    · rw [e]; exact hj
    · have hl : lbN l k < l.length := by omega
      have h3 : l[lbN l k]? = some l[lbN l k] := List.getElem?_eq_getElem hl
      have h4 := (lbN_iff (k := k) hr _ _ h3)
      have h5 : ltB l[lbN l k] l[j] = true := List.pairwise_iff_getElem.1 hr _ _ hl hlt (by omega)
      rw [(List.getElem?_eq_some_iff.1 hj).2] at h5
      exact absurd (h4.1 h5) (Nat.lt_irrefl _)
  · exact List.mem_of_getElem?
theorem mid (i j : Nat) (h : i + j < 1000000000) : IntKind.i64.wrap ((IntKind.u64.wrap (IntKind.i64.wrap ((i : Int) + (j : Int)))).fdiv (2 ^ min (Int.toNat 1) IntKind.u64.bits)) = (((i + j) / 2 : Nat) : Int) := by
  have e1 : IntKind.i64.wrap ((i : Int) + (j : Int)) = ((i + j : Nat) : Int) := by rw [wrap_eq (by omega) (by omega)]; omega
  rw [e1]
  have e2 : IntKind.u64.wrap (((i + j : Nat) : Int)) = ((i + j : Nat) : Int) := by
    have : IntKind.u64.wrap (((i + j : Nat) : Int)) = ((i + j : Nat) : Int) % 18446744073709551616 := by simp [IntKind.wrap, IntKind.bits, IntKind.signed]
    omega
  rw [e2, show (2 : Int) ^ min (Int.toNat 1) IntKind.u64.bits = 2 from rfl, Int.fdiv_eq_ediv_of_nonneg _ (by decide)]
  rw [wrap_eq (by omega) (by omega)]
  omega
/-- A pair's rows, known over G, not too long. -/
structure PrG (G : Heap) (r : PR) : Prop where
  ok : PrOk G r
  k : r.k.length ≤ 200
  v : r.v.length ≤ 400
theorem PrG.mono {G F : Heap} {r : PR} (h : PrG G r) (hE : Ext G F) : PrG F r := ⟨h.ok.mono hE, h.k, h.v⟩
theorem find (rs : List PR) (A : Option Addr) (c : Nat) (k : List UInt8) (KA : Option Addr) (kc : Nat) (F : Heap) (hr : RowAt F A (prsV rs)) (hl : rs.length ≤ 100000) (ho : ∀ r ∈ rs, RowAt F r.A (bytesOf r.k)) (hs : Rises (rs.map PR.k)) (hk : RowAt F KA (bytesOf k)) :
    FnK Try.prog 47 #[.slice A rs.length c, .slice KA k.length kc] F (fun v F' => v = .tuple #[.int .i64 (lbN (rs.map PR.k) k : Nat), .bool (decide (k ∈ rs.map PR.k))] ∧ Ext F F') := by
  have hlt : ∀ h (r : PR), rs[h]? = some r → (Lib.compareBytes r.k k < 0 ↔ h < lbN (rs.map PR.k) k) := fun h r hx => by
    rw [← lbN_iff (k := k) hs h r.k (by rw [List.getElem?_map, hx]; rfl), ← cb_lt, decide_eq_true_iff]
  have hle : lbN (rs.map PR.k) k ≤ rs.length := by have := lbN_le k (rs.map PR.k); rw [List.length_map] at this; exact this
  have hmem : ∀ r, rs[lbN (rs.map PR.k) k]? = some r → (Lib.compareBytes r.k k = 0 ↔ k ∈ rs.map PR.k) := fun r hx => by
    rw [cb_eq, lbN_mem hs, List.getElem?_map, hx]
    exact ⟨fun e => by rw [← e]; rfl, fun e => Option.some.inj e⟩
  have hmem2 : lbN (rs.map PR.k) k = rs.length → ¬ k ∈ rs.map PR.k := fun e hm => by
    have h1 := (lbN_mem hs).1 hm
    rw [e, List.getElem?_eq_none (by rw [List.length_map]; exact Nat.le_refl _)] at h1
    cases h1
  generalize lbN (rs.map PR.k) k = lb at hlt hle hmem hmem2
  generalize hq : decide (k ∈ rs.map PR.k) = q
  have hmq : ∀ r, rs[lb]? = some r → (Lib.compareBytes r.k k == 0) = q := fun r hx => by
    rw [← hq, Bool.eq_iff_iff, beq_iff_eq, decide_eq_true_iff]; exact hmem r hx
  have hmq2 : lb = rs.length → q = false := fun e => by rw [← hq]; exact decide_eq_false (hmem2 e)
  clear hmem hmem2 hq
  have hb : FnK Try.prog 73 #[.slice A rs.length c, .agg (prA ⟨k, KA, kc, [], none, 0⟩), .func (.func 60) #[] #[]] F (fun v F' => v = .tuple #[.int .i64 (lb : Nat), .bool q] ∧ Ext F F') := by
    (refine fn_walk tab_ok Try.func73 rfl rfl rfl rfl ?_; (conv => whnf))
    refine new_step (prO (.slice KA k.length kc) (.slice none 0 0)) rfl fun p h0_p => ?_
    have hE_p := Ext.new h0_p (prO (.slice KA k.length kc) (.slice none 0 0))
    have hB_p := Heap.put_same F p (prO (.slice KA k.length kc) (.slice none 0 0))
    generalize F.put p _ = F1 at hE_p hB_p ⊢
    ((conv => whnf); repeat (first | (apply load_at; (conv => lhs; whnf); (with_reducible assumption); rfl; (conv => whnf)) | (apply load_at; (conv => lhs; rw [add_plain, add_plain]); (with_reducible assumption); rfl; (conv => whnf)) | (apply loads_at; (conv => lhs; whnf); (with_reducible assumption); rfl; (conv => whnf)) | (refine ⟨⟨by omega, by omega⟩, ?_⟩; (conv => whnf))))
    refine loop_slots [0, 2, 4, 8, 9, 10] (fun m vs F' => ∃ i j : Nat, i + m = j ∧ i ≤ lb ∧ lb ≤ j ∧ j ≤ rs.length ∧ vs = [.slice A rs.length c, .func (.func 60) #[] #[], .pointer (some ⟨p, 0, none⟩), .int .i64 (rs.length : Int), .int .i64 (i : Int), .int .i64 (j : Int)] ∧ Ext F1 F') rs.length ⟨0, rs.length, by omega, by omega, hle, Nat.le_refl _, rfl, Ext.refl _⟩ ?_
    rintro m vs F2 ρ ⟨i, j, hm, h1, h2, h3, rfl, hE2⟩
    have hB2 := hE2 _ _ hB_p
    have hE := hE_p.trans hE2
    ((conv => whnf); repeat (first | (apply load_at; (conv => lhs; whnf); (with_reducible assumption); rfl; (conv => whnf)) | (apply load_at; (conv => lhs; rw [add_plain, add_plain]); (with_reducible assumption); rfl; (conv => whnf)) | (apply loads_at; (conv => lhs; whnf); (with_reducible assumption); rfl; (conv => whnf)) | (refine ⟨⟨by omega, by omega⟩, ?_⟩; (conv => whnf))))
    refine cond_split (fun h => ?_) (fun h => ?_)
    · have hij : i < j := by have := of_decide_eq_true h; omega
      have hmid := mid i j (by omega)
      have hh1 : (i + j) / 2 < j := by omega
      have hh2 : i ≤ (i + j) / 2 := by omega
      generalize (i + j) / 2 = t at hmid hh1 hh2
      obtain ⟨ad, rfl⟩ := hr.some (by rw [prsV_len]; omega)
      have hht : t < rs.length := by omega
      have hx : rs[t]? = some rs[t] := List.getElem?_eq_getElem hht
      have hL := fun (K : Value → Prop) => pr_load (K := K) (hr.mono hE) hht
      have hc := before rs[t] ⟨k, KA, kc, [], none, 0⟩ F2 ((ho _ (List.getElem_mem hht)).mono hE) (hk.mono hE)
      have hlt2 := hlt t rs[t] hx
      generalize rs[t] = r at hL hc hlt2
      replace hc : FnK Try.prog 60 #[.agg (prA r), .agg (prA ⟨k, KA, kc, [], none, 0⟩)] F2 (fun v F' => v = .int .i64 (Lib.compareBytes r.k k) ∧ Ext F2 F') := hc
      generalize Lib.compareBytes r.k k = z at hc hlt2
      ((conv => whnf); repeat (first | (apply load_at; (conv => lhs; whnf); (with_reducible assumption); rfl; (conv => whnf)) | (apply load_at; (conv => lhs; rw [add_plain, add_plain]); (with_reducible assumption); rfl; (conv => whnf)) | (apply loads_at; (conv => lhs; whnf); (with_reducible assumption); rfl; (conv => whnf)) | (refine ⟨⟨by omega, by omega⟩, ?_⟩; (conv => whnf))))
      refine ⟨by decide, ?_⟩
      ((conv => whnf); repeat (first | (apply load_at; (conv => lhs; whnf); (with_reducible assumption); rfl; (conv => whnf)) | (apply load_at; (conv => lhs; rw [add_plain, add_plain]); (with_reducible assumption); rfl; (conv => whnf)) | (apply loads_at; (conv => lhs; whnf); (with_reducible assumption); rfl; (conv => whnf)) | (refine ⟨⟨by omega, by omega⟩, ?_⟩; (conv => whnf))))
      refine short [0, 2, 4, 8, 9, 10, 11] [.slice (some ad) rs.length c, .func (.func 60) #[] #[], .pointer (some ⟨p, 0, none⟩), .int .i64 (rs.length : Int), .int .i64 (i : Int), .int .i64 (j : Int), .int .i64 (t : Int)] ?he fun ρ => ?_
      case he => rw [← hmid]; rfl
      ((conv => whnf); repeat (first | (apply load_at; (conv => lhs; whnf); (with_reducible assumption); rfl; (conv => whnf)) | (apply load_at; (conv => lhs; rw [add_plain, add_plain]); (with_reducible assumption); rfl; (conv => whnf)) | (apply loads_at; (conv => lhs; whnf); (with_reducible assumption); rfl; (conv => whnf)) | (refine ⟨⟨by omega, by omega⟩, ?_⟩; (conv => whnf))))
      refine draw_walk tab_ok (by kernel_rfl) [0, 1, 2, 3, 4, 5, 6, 7] (by kernel_rfl) ?_
      ((conv => whnf); repeat (first | (apply load_at; (conv => lhs; whnf); (with_reducible assumption); rfl; (conv => whnf)) | (apply load_at; (conv => lhs; rw [add_plain, add_plain]); (with_reducible assumption); rfl; (conv => whnf)) | (apply loads_at; (conv => lhs; whnf); (with_reducible assumption); rfl; (conv => whnf)) | (refine ⟨⟨by omega, by omega⟩, ?_⟩; (conv => whnf))))
      refine hL _ ?_
      ((conv => whnf); repeat (first | (apply load_at; (conv => lhs; whnf); (with_reducible assumption); rfl; (conv => whnf)) | (apply load_at; (conv => lhs; rw [add_plain, add_plain]); (with_reducible assumption); rfl; (conv => whnf)) | (apply loads_at; (conv => lhs; whnf); (with_reducible assumption); rfl; (conv => whnf)) | (refine ⟨⟨by omega, by omega⟩, ?_⟩; (conv => whnf))))
      refine call_of hc ?_
      rintro v F3 ⟨rfl, hE3⟩
      replace hE2 := hE2.trans hE3
      ((conv => whnf); repeat (first | (apply load_at; (conv => lhs; whnf); (with_reducible assumption); rfl; (conv => whnf)) | (apply load_at; (conv => lhs; rw [add_plain, add_plain]); (with_reducible assumption); rfl; (conv => whnf)) | (apply loads_at; (conv => lhs; whnf); (with_reducible assumption); rfl; (conv => whnf)) | (refine ⟨⟨by omega, by omega⟩, ?_⟩; (conv => whnf))))
      refine cond_split (fun h => ?_) (fun h => ?_)
      · have hz : z < 0 := of_decide_eq_true h
        have htl := hlt2.1 hz
        have hws : IntKind.i64.wrap ((t : Int) + 1) = ((t + 1 : Nat) : Int) := wrap_succ (by omega)
        ((conv => whnf); repeat (first | (apply load_at; (conv => lhs; whnf); (with_reducible assumption); rfl; (conv => whnf)) | (apply load_at; (conv => lhs; rw [add_plain, add_plain]); (with_reducible assumption); rfl; (conv => whnf)) | (apply loads_at; (conv => lhs; whnf); (with_reducible assumption); rfl; (conv => whnf)) | (refine ⟨⟨by omega, by omega⟩, ?_⟩; (conv => whnf))))
        refine ⟨j - (t + 1), by omega, t + 1, j, by omega, by omega, h2, h3, ?_, hE2⟩
        rw [← hws]
        rfl
      · have hz : ¬ z < 0 := of_decide_eq_false h
        have htl : ¬ t < lb := fun e => hz (hlt2.2 e)
        ((conv => whnf); repeat (first | (apply load_at; (conv => lhs; whnf); (with_reducible assumption); rfl; (conv => whnf)) | (apply load_at; (conv => lhs; rw [add_plain, add_plain]); (with_reducible assumption); rfl; (conv => whnf)) | (apply loads_at; (conv => lhs; whnf); (with_reducible assumption); rfl; (conv => whnf)) | (refine ⟨⟨by omega, by omega⟩, ?_⟩; (conv => whnf))))
        exact ⟨t - i, by omega, i, t, by omega, h1, by omega, by omega, rfl, hE2⟩
    · have hij : ¬ i < j := by have := of_decide_eq_false h; omega
      obtain rfl : i = lb := by omega
      ((conv => whnf); repeat (first | (apply load_at; (conv => lhs; whnf); (with_reducible assumption); rfl; (conv => whnf)) | (apply load_at; (conv => lhs; rw [add_plain, add_plain]); (with_reducible assumption); rfl; (conv => whnf)) | (apply loads_at; (conv => lhs; whnf); (with_reducible assumption); rfl; (conv => whnf)) | (refine ⟨⟨by omega, by omega⟩, ?_⟩; (conv => whnf))))
      refine draw_walk tab_ok (by kernel_rfl) [0, 1, 2, 3, 4, 5, 6, 7, 8, 9, 10, 11, 12, 13, 14, 15] (by kernel_rfl) ?_
      ((conv => whnf); repeat (first | (apply load_at; (conv => lhs; whnf); (with_reducible assumption); rfl; (conv => whnf)) | (apply load_at; (conv => lhs; rw [add_plain, add_plain]); (with_reducible assumption); rfl; (conv => whnf)) | (apply loads_at; (conv => lhs; whnf); (with_reducible assumption); rfl; (conv => whnf)) | (refine ⟨⟨by omega, by omega⟩, ?_⟩; (conv => whnf))))
      refine cond_split (fun h => ?_) (fun h => ?_)
      · have h : decide ((i : Int) < (rs.length : Int)) = true := h
        have hil : i < rs.length := by have := of_decide_eq_true h; omega
        obtain ⟨ad, rfl⟩ := hr.some (by rw [prsV_len]; omega)
        have hx : rs[i]? = some rs[i] := List.getElem?_eq_getElem hil
        have hL := fun (K : Value → Prop) => pr_load (K := K) (hr.mono hE) hil
        have hc : FnK Try.prog 60 #[.agg (prA rs[i]), .agg (prA ⟨k, KA, kc, [], none, 0⟩)] F2 (fun v F' => v = .int .i64 (Lib.compareBytes rs[i].k k) ∧ Ext F2 F') := before rs[i] ⟨k, KA, kc, [], none, 0⟩ F2 ((ho _ (List.getElem_mem hil)).mono hE) (hk.mono hE)
        have hq2 := hmq rs[i] hx
        generalize rs[i] = r at hL hc hq2
        generalize Lib.compareBytes r.k k = z at hc hq2
        ((conv => whnf); repeat (first | (apply load_at; (conv => lhs; whnf); (with_reducible assumption); rfl; (conv => whnf)) | (apply load_at; (conv => lhs; rw [add_plain, add_plain]); (with_reducible assumption); rfl; (conv => whnf)) | (apply loads_at; (conv => lhs; whnf); (with_reducible assumption); rfl; (conv => whnf)) | (refine ⟨⟨by omega, by omega⟩, ?_⟩; (conv => whnf))))
        refine hL _ ?_
        ((conv => whnf); repeat (first | (apply load_at; (conv => lhs; whnf); (with_reducible assumption); rfl; (conv => whnf)) | (apply load_at; (conv => lhs; rw [add_plain, add_plain]); (with_reducible assumption); rfl; (conv => whnf)) | (apply loads_at; (conv => lhs; whnf); (with_reducible assumption); rfl; (conv => whnf)) | (refine ⟨⟨by omega, by omega⟩, ?_⟩; (conv => whnf))))
        refine call_of hc ?_
        rintro v F3 ⟨rfl, hE3⟩
        ((conv => whnf); repeat (first | (apply load_at; (conv => lhs; whnf); (with_reducible assumption); rfl; (conv => whnf)) | (apply load_at; (conv => lhs; rw [add_plain, add_plain]); (with_reducible assumption); rfl; (conv => whnf)) | (apply loads_at; (conv => lhs; whnf); (with_reducible assumption); rfl; (conv => whnf)) | (refine ⟨⟨by omega, by omega⟩, ?_⟩; (conv => whnf))))
        refine ⟨?_, hE.trans hE3⟩
        rw [← hq2]
        rfl
      · have h : decide ((i : Int) < (rs.length : Int)) = false := h
        have hil : i = rs.length := by have := of_decide_eq_false h; omega
        rw [hmq2 hil]
        ((conv => whnf); repeat (first | (apply load_at; (conv => lhs; whnf); (with_reducible assumption); rfl; (conv => whnf)) | (apply load_at; (conv => lhs; rw [add_plain, add_plain]); (with_reducible assumption); rfl; (conv => whnf)) | (apply loads_at; (conv => lhs; whnf); (with_reducible assumption); rfl; (conv => whnf)) | (refine ⟨⟨by omega, by omega⟩, ?_⟩; (conv => whnf))))
        exact ⟨rfl, hE⟩
  (refine fn_walk tab_ok Try.func47 rfl rfl rfl rfl ?_; (conv => whnf))
  ((conv => whnf); repeat (first | (apply load_at; (conv => lhs; whnf); (with_reducible assumption); rfl; (conv => whnf)) | (apply load_at; (conv => lhs; rw [add_plain, add_plain]); (with_reducible assumption); rfl; (conv => whnf)) | (apply loads_at; (conv => lhs; whnf); (with_reducible assumption); rfl; (conv => whnf)) | (refine ⟨⟨by omega, by omega⟩, ?_⟩; (conv => whnf))))
  refine call_of hb ?_
  rintro v F1 ⟨rfl, hE⟩
  ((conv => whnf); repeat (first | (apply load_at; (conv => lhs; whnf); (with_reducible assumption); rfl; (conv => whnf)) | (apply load_at; (conv => lhs; rw [add_plain, add_plain]); (with_reducible assumption); rfl; (conv => whnf)) | (apply loads_at; (conv => lhs; whnf); (with_reducible assumption); rfl; (conv => whnf)) | (refine ⟨⟨by omega, by omega⟩, ?_⟩; (conv => whnf))))
  exact ⟨rfl, hE⟩
theorem right (rs : List PR) (A : Option Addr) (c : Nat) (F : Heap) (hr : RowAt F A (prsV rs)) (hl : rs.length ≤ 100000) (hlc : rs.length ≤ c) (ho : ∀ r ∈ rs, RowAt F r.A (bytesOf r.k)) :
    FnK Try.prog 26 #[.slice A rs.length c] F (fun v F' => v = .bool (risB (rs.map PR.k)) ∧ Ext F F') := by
  obtain ⟨res, hres⟩ : ∃ b, b = risB (rs.map PR.k) := ⟨_, rfl⟩
  rw [← hres]
  obtain ⟨n, hn⟩ : ∃ n : Nat, n = rs.length - 1 := ⟨_, rfl⟩
  have hmx : (if IntKind.i64.wrap ((rs.length : Int) - 1) < 0 then (0 : Int) else IntKind.i64.wrap ((rs.length : Int) - 1)) = (n : Int) := by
    rw [wrap_eq (by omega) (by omega)]
    split <;> omega
  (refine fn_walk tab_ok Try.func26 rfl rfl rfl rfl ?_; (conv => whnf))
  refine ⟨by rw [hmx]; omega, ?_⟩
  ((conv => whnf); repeat (first | (apply load_at; (conv => lhs; whnf); (with_reducible assumption); rfl; (conv => whnf)) | (apply load_at; (conv => lhs; rw [add_plain, add_plain]); (with_reducible assumption); rfl; (conv => whnf)) | (apply loads_at; (conv => lhs; whnf); (with_reducible assumption); rfl; (conv => whnf)) | (refine ⟨⟨by omega, by omega⟩, ?_⟩; (conv => whnf))))
  refine loop_slots [0, 10, 11] (fun m vs F' => ∃ j : Nat, j + m = n ∧ vs = [.slice A rs.length c, .int .i64 (n : Int), .int .i64 (j : Int)] ∧ res = risB ((rs.map PR.k).drop j) ∧ Ext F F') n ⟨0, by omega, ?he, hres, Ext.refl F⟩ ?_
  case he =>
    show [Value.slice A rs.length c, .int .i64 (((if IntKind.i64.wrap ((rs.length : Int) - 1) < 0 then (0 : Int) else IntKind.i64.wrap ((rs.length : Int) - 1)).toNat - 0 : Nat) : Int), .int .i64 0] = _
    rw [hmx, Int.toNat_natCast, Nat.sub_zero]
    rfl
  rintro m vs F2 ρ ⟨j, hm, rfl, hri, hE⟩
  ((conv => whnf); repeat (first | (apply load_at; (conv => lhs; whnf); (with_reducible assumption); rfl; (conv => whnf)) | (apply load_at; (conv => lhs; rw [add_plain, add_plain]); (with_reducible assumption); rfl; (conv => whnf)) | (apply loads_at; (conv => lhs; whnf); (with_reducible assumption); rfl; (conv => whnf)) | (refine ⟨⟨by omega, by omega⟩, ?_⟩; (conv => whnf))))
  refine cond_split (fun h => ?_) (fun h => ?_)
  · have hj : j + 1 < rs.length := by have := of_decide_eq_true h; omega
    obtain ⟨ad, rfl⟩ := hr.some (by rw [prsV_len]; omega)
    have hL := fun (K : Value → Prop) => pr_load (K := K) (hr.mono hE) (show j < rs.length by omega)
    have hL2 := fun (K : Value → Prop) => pr_load (K := K) (hr.mono hE) hj
    have hws : IntKind.i64.wrap ((j : Int) + 1) = ((j + 1 : Nat) : Int) := wrap_succ (by omega)
    have hc := before rs[j] rs[j + 1] F2 ((ho _ (List.getElem_mem _)).mono hE) ((ho _ (List.getElem_mem _)).mono hE)
    have hdr : (rs.map PR.k).drop j = rs[j].k :: rs[j + 1].k :: (rs.map PR.k).drop (j + 2) := by
      rw [List.drop_eq_getElem_cons (by rw [List.length_map]; omega), List.drop_eq_getElem_cons (by rw [List.length_map]; omega), List.getElem_map, List.getElem_map]
    have hdr2 : (rs.map PR.k).drop (j + 1) = rs[j + 1].k :: (rs.map PR.k).drop (j + 2) := by
      rw [List.drop_eq_getElem_cons (by rw [List.length_map]; omega), List.getElem_map]
    rw [hdr, risB_cons, ← hdr2, ← cb_lt] at hri
    clear hdr hdr2
    rw [← hws] at hL2
    generalize rs[j] = r at hL hc hri
    generalize rs[j + 1] = s at hL2 hc hri
    generalize Lib.compareBytes r.k s.k = z at hc hri
    ((conv => whnf); repeat (first | (apply load_at; (conv => lhs; whnf); (with_reducible assumption); rfl; (conv => whnf)) | (apply load_at; (conv => lhs; rw [add_plain, add_plain]); (with_reducible assumption); rfl; (conv => whnf)) | (apply loads_at; (conv => lhs; whnf); (with_reducible assumption); rfl; (conv => whnf)) | (refine ⟨⟨by omega, by omega⟩, ?_⟩; (conv => whnf))))
    refine draw_walk tab_ok (by kernel_rfl) [0, 1, 2, 3, 4, 5, 6, 7, 8, 9, 10] (by kernel_rfl) ?_
    ((conv => whnf); repeat (first | (apply load_at; (conv => lhs; whnf); (with_reducible assumption); rfl; (conv => whnf)) | (apply load_at; (conv => lhs; rw [add_plain, add_plain]); (with_reducible assumption); rfl; (conv => whnf)) | (apply loads_at; (conv => lhs; whnf); (with_reducible assumption); rfl; (conv => whnf)) | (refine ⟨⟨by omega, by omega⟩, ?_⟩; (conv => whnf))))
    refine hL _ ?_
    ((conv => whnf); repeat (first | (apply load_at; (conv => lhs; whnf); (with_reducible assumption); rfl; (conv => whnf)) | (apply load_at; (conv => lhs; rw [add_plain, add_plain]); (with_reducible assumption); rfl; (conv => whnf)) | (apply loads_at; (conv => lhs; whnf); (with_reducible assumption); rfl; (conv => whnf)) | (refine ⟨⟨by omega, by omega⟩, ?_⟩; (conv => whnf))))
    refine hL2 _ ?_
    ((conv => whnf); repeat (first | (apply load_at; (conv => lhs; whnf); (with_reducible assumption); rfl; (conv => whnf)) | (apply load_at; (conv => lhs; rw [add_plain, add_plain]); (with_reducible assumption); rfl; (conv => whnf)) | (apply loads_at; (conv => lhs; whnf); (with_reducible assumption); rfl; (conv => whnf)) | (refine ⟨⟨by omega, by omega⟩, ?_⟩; (conv => whnf))))
    refine call_of hc ?_
    rintro v F3 ⟨rfl, hE3⟩
    ((conv => whnf); repeat (first | (apply load_at; (conv => lhs; whnf); (with_reducible assumption); rfl; (conv => whnf)) | (apply load_at; (conv => lhs; rw [add_plain, add_plain]); (with_reducible assumption); rfl; (conv => whnf)) | (apply loads_at; (conv => lhs; whnf); (with_reducible assumption); rfl; (conv => whnf)) | (refine ⟨⟨by omega, by omega⟩, ?_⟩; (conv => whnf))))
    refine cond_split (fun h => ?_) (fun h => ?_)
    · have hz : ¬ z < 0 := by have := of_decide_eq_true h; omega
      rw [decide_eq_false hz, Bool.false_and] at hri
      ((conv => whnf); repeat (first | (apply load_at; (conv => lhs; whnf); (with_reducible assumption); rfl; (conv => whnf)) | (apply load_at; (conv => lhs; rw [add_plain, add_plain]); (with_reducible assumption); rfl; (conv => whnf)) | (apply loads_at; (conv => lhs; whnf); (with_reducible assumption); rfl; (conv => whnf)) | (refine ⟨⟨by omega, by omega⟩, ?_⟩; (conv => whnf))))
      exact ⟨congrArg Value.bool hri.symm, hE.trans hE3⟩
    · have hz : z < 0 := by have := of_decide_eq_false h; omega
      rw [decide_eq_true hz, Bool.true_and] at hri
      ((conv => whnf); repeat (first | (apply load_at; (conv => lhs; whnf); (with_reducible assumption); rfl; (conv => whnf)) | (apply load_at; (conv => lhs; rw [add_plain, add_plain]); (with_reducible assumption); rfl; (conv => whnf)) | (apply loads_at; (conv => lhs; whnf); (with_reducible assumption); rfl; (conv => whnf)) | (refine ⟨⟨by omega, by omega⟩, ?_⟩; (conv => whnf))))
      refine ⟨m - 1, by omega, j + 1, by omega, ?_, hri, hE.trans hE3⟩
      rw [← hws]
      rfl
  · have hj : j = n := by have := of_decide_eq_false h; omega
    have hd : ((rs.map PR.k).drop j).length ≤ 1 := by rw [List.length_drop, List.length_map]; omega
    have hri2 : res = true := by
      rw [hri]
      generalize (rs.map PR.k).drop j = l at hd
      match l, hd with
      | [], _ => rfl
      | [a], _ => rfl
      | a :: b :: l, hd => simp at hd
    ((conv => whnf); repeat (first | (apply load_at; (conv => lhs; whnf); (with_reducible assumption); rfl; (conv => whnf)) | (apply load_at; (conv => lhs; rw [add_plain, add_plain]); (with_reducible assumption); rfl; (conv => whnf)) | (apply loads_at; (conv => lhs; whnf); (with_reducible assumption); rfl; (conv => whnf)) | (refine ⟨⟨by omega, by omega⟩, ?_⟩; (conv => whnf))))
    exact ⟨congrArg Value.bool hri2.symm, hE⟩
/-- A pair whose rows are new. -/
structure NewPr (F F' : Heap) (r : PR) : Prop where
  ok : PrOk F' r
  a : ∀ a, r.A = some a → F a.block = none
  b : ∀ a, r.B = some a → F a.block = none
theorem rowAt_put {F : Heap} {A : Option Addr} {vs : List Value} {q : Nat} {o : Obj} (hr : RowAt F A vs) (h : ∀ a, A = some a → a.block ≠ q) : RowAt (F.put q o) A vs :=
  rowAt_keepq hr (fun c u hc hne => by rw [Heap.put_other _ _ (fun e => hne (by rw [e]))]; exact hc) h
theorem own (r : PR) (F : Heap) (hr : PrOk F r) (hk : r.k.length ≤ 200) (hv : r.v.length ≤ 400) :
    FnK Try.prog 48 #[.agg (prA r)] F (fun v F' => ∃ r', v = .agg (prA r') ∧ r'.k = r.k ∧ r'.v = r.v ∧ NewPr F F' r' ∧ Ext F F') := by
  obtain ⟨k, A1, c1, w, B1, cc1⟩ := r
  obtain ⟨h1, h2, h3, h4⟩ := hr
  replace hk : k.length ≤ 200 := hk
  replace hv : w.length ≤ 400 := hv
  (refine fn_walk tab_ok Try.func48 rfl rfl rfl rfl ?_; (conv => whnf))
  refine new_step (prO (.slice A1 k.length c1) (.slice B1 w.length cc1)) rfl fun p h0_p => ?_
  have hE_p := Ext.new h0_p (prO (.slice A1 k.length c1) (.slice B1 w.length cc1))
  have hB_p := Heap.put_same F p (prO (.slice A1 k.length c1) (.slice B1 w.length cc1))
  generalize F.put p _ = F1 at hE_p hB_p ⊢
  ((conv => whnf); repeat (first | (apply load_at; (conv => lhs; whnf); (with_reducible assumption); rfl; (conv => whnf)) | (apply load_at; (conv => lhs; rw [add_plain, add_plain]); (with_reducible assumption); rfl; (conv => whnf)) | (apply loads_at; (conv => lhs; whnf); (with_reducible assumption); rfl; (conv => whnf)) | (refine ⟨⟨by omega, by omega⟩, ?_⟩; (conv => whnf))))
  refine new_step (zeroP) rfl fun q h0_q => ?_
  have hE_q := Ext.new h0_q (zeroP)
  have hB_q := Heap.put_same F1 q (zeroP)
  generalize F1.put q _ = F2 at hE_q hB_q ⊢
  have hB2 := hE_q _ _ hB_p
  have hE := hE_p.trans hE_q
  ((conv => whnf); repeat (first | (apply load_at; (conv => lhs; whnf); (with_reducible assumption); rfl; (conv => whnf)) | (apply load_at; (conv => lhs; rw [add_plain, add_plain]); (with_reducible assumption); rfl; (conv => whnf)) | (apply loads_at; (conv => lhs; whnf); (with_reducible assumption); rfl; (conv => whnf)) | (refine ⟨⟨by omega, by omega⟩, ?_⟩; (conv => whnf))))
  refine draw_tree_at tab_ok (by kernel_rfl) [] (DT.row [0, 1, 3, 4, 2, 5, 6, 7] .nil) (by kernel_rfl) (fun _ => none) (fun _ _ h => by cases h) ?_
  ((conv => whnf); repeat (first | (apply load_at; (conv => lhs; whnf); (with_reducible assumption); rfl; (conv => whnf)) | (apply load_at; (conv => lhs; rw [add_plain, add_plain]); (with_reducible assumption); rfl; (conv => whnf)) | (apply loads_at; (conv => lhs; whnf); (with_reducible assumption); rfl; (conv => whnf)) | (refine ⟨⟨by omega, by omega⟩, ?_⟩; (conv => whnf))))
  refine call_of (clone k A1 c1 F2 (h1.mono hE) (by omega)) ?_
  rintro v F3 hM3
  obtain ⟨A3, d3, rfl, e3, r3⟩ := hM3.own.row
  have f3 : ∀ a, A3 = some a → F2 a.block = none := fun a ha => hM3.fresh _ (by rw [ha]; rfl)
  have E3 := hM3.ext
  (conv => whnf)
  refine ⟨(fun _ _ h => by cases h), E3, ?_⟩
  ((conv => whnf); repeat (first | (apply load_at; (conv => lhs; whnf); (with_reducible assumption); rfl; (conv => whnf)) | (apply load_at; (conv => lhs; rw [add_plain, add_plain]); (with_reducible assumption); rfl; (conv => whnf)) | (apply loads_at; (conv => lhs; whnf); (with_reducible assumption); rfl; (conv => whnf)) | (refine ⟨⟨by omega, by omega⟩, ?_⟩; (conv => whnf))))
  refine call_of (clone w B1 cc1 F3 ((h2.mono hE).mono E3) (by omega)) ?_
  rintro v F4 hM4
  obtain ⟨A4, d4, rfl, e4, r4⟩ := hM4.own.row
  have f4 : ∀ a, A4 = some a → F3 a.block = none := fun a ha => hM4.fresh _ (by rw [ha]; rfl)
  have E4 := hM4.ext
  (conv => whnf)
  refine ⟨(fun _ _ h => by cases h), ?_⟩
  ((conv => whnf); repeat (first | (apply load_at; (conv => lhs; whnf); (with_reducible assumption); rfl; (conv => whnf)) | (apply load_at; (conv => lhs; rw [add_plain, add_plain]); (with_reducible assumption); rfl; (conv => whnf)) | (apply loads_at; (conv => lhs; whnf); (with_reducible assumption); rfl; (conv => whnf)) | (refine ⟨⟨by omega, by omega⟩, ?_⟩; (conv => whnf))))
  have hq4 := E4 _ _ (E3 _ _ hB_q)
  refine store_step q 0 _ (prC (.slice A3 k.length d3) (.slice A4 w.length d4)) rfl hq4 rfl rfl (.inl (Nat.le_refl 0)) (os2 _ _ _ _ _ _) ?_
  have hq5 := Heap.put_same F4 q (prO (.slice A3 k.length d3) (.slice A4 w.length d4))
  have hF0 : F q = none := hE_p.none h0_q
  have hEf : Ext F (F4.put q (prO (.slice A3 k.length d3) (.slice A4 w.length d4))) := ((hE.trans E3).trans E4).put hF0 _
  have n3 : ∀ a, A3 = some a → a.block ≠ q := fun a ha e => by have := f3 a ha; rw [e, hB_q] at this; cases this
  have n4 : ∀ a, A4 = some a → a.block ≠ q := fun a ha e => by have := f4 a ha; rw [e, E3 _ _ hB_q] at this; cases this
  have R3 := rowAt_put (o := prO (.slice A3 k.length d3) (.slice A4 w.length d4)) (r3.mono E4) n3
  have R4 := rowAt_put (o := prO (.slice A3 k.length d3) (.slice A4 w.length d4)) r4 n4
  generalize F4.put q _ = F5 at hq5 hEf R3 R4 ⊢
  (conv => whnf)
  refine ⟨(fun _ _ h => by cases h), ?_⟩
  ((conv => whnf); repeat (first | (apply load_at; (conv => lhs; whnf); (with_reducible assumption); rfl; (conv => whnf)) | (apply load_at; (conv => lhs; rw [add_plain, add_plain]); (with_reducible assumption); rfl; (conv => whnf)) | (apply loads_at; (conv => lhs; whnf); (with_reducible assumption); rfl; (conv => whnf)) | (refine ⟨⟨by omega, by omega⟩, ?_⟩; (conv => whnf))))
  refine res_cells tab_ok rfl rfl hq5 rfl ?_
  ((conv => whnf); repeat (first | (apply load_at; (conv => lhs; whnf); (with_reducible assumption); rfl; (conv => whnf)) | (apply load_at; (conv => lhs; rw [add_plain, add_plain]); (with_reducible assumption); rfl; (conv => whnf)) | (apply loads_at; (conv => lhs; whnf); (with_reducible assumption); rfl; (conv => whnf)) | (refine ⟨⟨by omega, by omega⟩, ?_⟩; (conv => whnf))))
  exact ⟨⟨k, A3, d3, w, A4, d4⟩, rfl, rfl, rfl, ⟨⟨R3, R4, e3, e4⟩, fun a ha => hE.none (f3 a ha), fun a ha => (hE.trans E3).none (f4 a ha)⟩, hEf⟩
end Go.Proofs.Ytlkdbmoocajjlaa.Al

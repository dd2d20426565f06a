/- The law InterfEqual holds of the program: proved over what is known of memory, each function by its contract. -/
import Derived.Test.YtpbpjmnnbmjmbaaMgInterfEqualLaw
import Derived.Test.YtpbpjmnnbmjmbaaMgInfE1
import Derived.Test.YtpbpjmnnbmjmbaaMgInfE2
import Derived.Test.YtpbpjmnnbmjmbaaMgInfE3
namespace Go.Proofs.Ytpbpjmnnbmjmbaa.AlInterfEqual
open Go Go.Al Go.Proofs Go.RowKit Go.Proofs.Ytpbpjmnnbmjmbaa.Al
set_option maxHeartbeats 8000000
set_option maxRecDepth 100000
set_option linter.unusedVariables false
set_option linter.unusedSimpArgs false
theorem ln_open {F : Heap} {A : Option Addr} {xs : List (Int × (Int × (Int × Int)))} (w : ∀ x ∈ xs, IntKind.i64.wrap x.2.2.2 = x.2.2.2) (h : Elems F A 4 (kPair 1 (kInt .i64) (kPair 1 (kInt .i64) (kPair 1 (kInt .i64) (kInt .i64)))) xs) : ∃ rs : List LnD, rs.length = xs.length ∧ RowAt F A (rowS lnC rs) ∧ ∀ x ∈ rs, IntKind.i64.wrap x.a = x.a := by
  obtain ⟨rs, h1, h2, h3⟩ := rowS_open (f := lnC) (G := fun x => IntKind.i64.wrap x.2.2.2 = x.2.2.2) (Q := fun (r : LnD) x => IntKind.i64.wrap r.a = r.a) lnC_len (by decide) w h (by
    rintro ⟨f, o, n, a⟩ c hG hK
    obtain ⟨c1, d1, rfl, hl1, rfl, c2, d2, rfl, hl2, rfl, c3, d3, rfl, hl3, rfl, rfl⟩ := hK
    exact ⟨⟨f, o, n, a⟩, rfl, hG⟩)
  refine ⟨rs, h1, h2, fun x hx => ?_⟩
  obtain ⟨j, hj, rfl⟩ := List.mem_iff_getElem.1 hx
  exact h3 j _ _ (List.getElem?_eq_getElem hj) (List.getElem?_eq_getElem (by omega))
theorem law : LawK := by
  intro F x0 w0 A0 c0 hc0 hK0
  obtain ⟨l, hll, hr, hwa⟩ := ln_open (fun x hx => by
    have := (w0.2 x hx).2.2.2
    have h1 : IntKind.i64.min ≤ x.2.2.2 ∧ x.2.2.2 ≤ 9223372036854775807 := by simpa [Lit.wf] using this
    rw [show IntKind.i64.min = -9223372036854775808 from by decide] at h1
    rw [IntKind.wrap_i64]
    omega) hK0
  rw [← hll]
  clear hK0 w0 hc0
  have out : ∀ F', Ext F F' → FnK Try.prog 6 #[] F' (fun v F' => v = .bool true ∧ Ext F F') := fun F' hF' => (awake24 F').mono fun v G h => ⟨h.1, hF'.trans h.2⟩
  have k1 := fun F' hE h => balance funds l A0 c0 F' (hr.mono hE) h hwa
  have k3 := fun h => all l A0 c0 F hr h hwa
  have hal := allS_len l
  have hbl := balS_len l
  have hfl := funds_len l
  have hdue := due_eq l
  have k4 := fun A c F' hr' h => equalF (allS l) (all_zero l) A c F' hr' h (fun x hx => (List.mem_append.1 hx).elim (hwa x) (bal_wrap l x))
  have k5 := fun A c F' hr' h => requalF (allS l) (all_zero l) A c F' hr' h
  generalize hb : balS l = b at k1 hbl hdue
  generalize allS l = al at k3 k4 k5 hal
  have ht1 := tot_take l
  have hd1 := deb_take b
  have hc1 := cre_take b
  have e1 : totA (l.take l.length) = totA l := by rw [List.take_length]
  have e2 : debA (b.take b.length) = debA b := by rw [List.take_length]
  have e3 : creA (b.take b.length) = creA b := by rw [List.take_length]
  have z1 : totA (l.take 0) = 0 := rfl
  have z2 : debA (b.take 0) = 0 := rfl
  have z3 : creA (b.take 0) = 0 := rfl
  (refine fn_walk tab_ok Try.func4 rfl rfl rfl rfl ?_; (conv => whnf))
  refine call_of (fewL _ _ _ _) ?_
  rintro v F1 ⟨rfl, rfl⟩
  ((conv => whnf); repeat (first | (apply load_at; (conv => lhs; whnf); (with_reducible assumption); rfl; (conv => whnf)) | (apply load_at; (conv => lhs; rw [add_plain, add_plain]); (with_reducible assumption); rfl; (conv => whnf)) | (apply loads_at; (conv => lhs; whnf); (with_reducible assumption); rfl; (conv => whnf)) | (refine ⟨⟨by omega, by omega⟩, ?_⟩; (conv => whnf))))
  cases hd : decide ((l.length : Int) ≤ 30) with
  | false =>
    ((conv => whnf); repeat (first | (apply load_at; (conv => lhs; whnf); (with_reducible assumption); rfl; (conv => whnf)) | (apply load_at; (conv => lhs; rw [add_plain, add_plain]); (with_reducible assumption); rfl; (conv => whnf)) | (apply loads_at; (conv => lhs; whnf); (with_reducible assumption); rfl; (conv => whnf)) | (refine ⟨⟨by omega, by omega⟩, ?_⟩; (conv => whnf))))
    refine call_of (out F1 (Ext.refl _)) ?_
    rintro v F2 ⟨rfl, hE⟩
    ((conv => whnf); repeat (first | (apply load_at; (conv => lhs; whnf); (with_reducible assumption); rfl; (conv => whnf)) | (apply load_at; (conv => lhs; rw [add_plain, add_plain]); (with_reducible assumption); rfl; (conv => whnf)) | (apply loads_at; (conv => lhs; whnf); (with_reducible assumption); rfl; (conv => whnf)) | (refine ⟨⟨by omega, by omega⟩, ?_⟩; (conv => whnf))))
    exact ⟨rfl, hE⟩
  | true =>
  have hn : l.length ≤ 30 := by have := of_decide_eq_true hd; omega
  ((conv => whnf); repeat (first | (apply load_at; (conv => lhs; whnf); (with_reducible assumption); rfl; (conv => whnf)) | (apply load_at; (conv => lhs; rw [add_plain, add_plain]); (with_reducible assumption); rfl; (conv => whnf)) | (apply loads_at; (conv => lhs; whnf); (with_reducible assumption); rfl; (conv => whnf)) | (refine ⟨⟨by omega, by omega⟩, ?_⟩; (conv => whnf))))
  refine call_of (k3 (by omega)) ?_
  rintro v F2 hM2
  obtain ⟨A2, c2, rfl, _, hr2⟩ := hM2.own.row
  ((conv => whnf); repeat (first | (apply load_at; (conv => lhs; whnf); (with_reducible assumption); rfl; (conv => whnf)) | (apply load_at; (conv => lhs; rw [add_plain, add_plain]); (with_reducible assumption); rfl; (conv => whnf)) | (apply loads_at; (conv => lhs; whnf); (with_reducible assumption); rfl; (conv => whnf)) | (refine ⟨⟨by omega, by omega⟩, ?_⟩; (conv => whnf))))
  refine loop_slots [0, 3, 4, 5, 6, 17, 18, 19] (fun k vs F' => ∃ j : Nat, j + k = l.length ∧ vs = [.slice A0 l.length c0, .slice A2 al.length c2, .int .i64 (totA (l.take j)), .int .i64 0, .int .i64 0, .slice A0 l.length c0, .int .i64 (l.length : Int), .int .i64 (j : Int)] ∧ Ext F2 F') l.length ⟨0, by omega, rfl, Ext.refl _⟩ ?_
  rintro k vs F3 ρ ⟨j, hjk, rfl, hE3⟩
  ((conv => whnf); repeat (first | (apply load_at; (conv => lhs; whnf); (with_reducible assumption); rfl; (conv => whnf)) | (apply load_at; (conv => lhs; rw [add_plain, add_plain]); (with_reducible assumption); rfl; (conv => whnf)) | (apply loads_at; (conv => lhs; whnf); (with_reducible assumption); rfl; (conv => whnf)) | (refine ⟨⟨by omega, by omega⟩, ?_⟩; (conv => whnf))))
  refine cond_split (fun h => ?_) (fun h => ?_)
  · have hj : j < l.length := by have := of_decide_eq_true (show decide ((j : Int) < (l.length : Int)) = true from h); omega
    clear h
    have hj1 : IntKind.i64.wrap ((j : Int) + 1) = ((j + 1 : Nat) : Int) := wrap_succ (j := j) (by omega)
    have ht := ht1 j hj
    have hx : l[j]? = some l[j] := List.getElem?_eq_getElem hj
    generalize l[j] = x at hx ht
    generalize totA (l.take j) = t at ht
    obtain ⟨ad, rfl⟩ := hr.some (by rw [rowS_len lnC_len]; omega)
    have hL : ∀ K : Value → Prop, K (lnV x) → LoadsK F3 (ad.add (Int.toNat (j : Int) * 4)) 4 K := fun K hk => rowS_loads lnC_len (by decide) (hr.mono (hM2.ext.trans hE3)) hx hk
    ((conv => whnf); repeat (first | (apply load_at; (conv => lhs; whnf); (with_reducible assumption); rfl; (conv => whnf)) | (apply load_at; (conv => lhs; rw [add_plain, add_plain]); (with_reducible assumption); rfl; (conv => whnf)) | (apply loads_at; (conv => lhs; whnf); (with_reducible assumption); rfl; (conv => whnf)) | (refine ⟨⟨by omega, by omega⟩, ?_⟩; (conv => whnf))))
    refine hL _ ?_
    ((conv => whnf); repeat (first | (apply load_at; (conv => lhs; whnf); (with_reducible assumption); rfl; (conv => whnf)) | (apply load_at; (conv => lhs; rw [add_plain, add_plain]); (with_reducible assumption); rfl; (conv => whnf)) | (apply loads_at; (conv => lhs; whnf); (with_reducible assumption); rfl; (conv => whnf)) | (refine ⟨⟨by omega, by omega⟩, ?_⟩; (conv => whnf))))
    refine new_step (.cells #[.int .i64 0, .int .i64 0, .int .i64 0, .int .i64 0] 27) rfl fun g h0_g => ?_
    have hU_g := Heap.put_same F3 g (.cells #[.int .i64 0, .int .i64 0, .int .i64 0, .int .i64 0] 27)
    have hX_g := fun o => (ext_put_put h0_g (o := .cells #[.int .i64 0, .int .i64 0, .int .i64 0, .int .i64 0] 27) (o' := o))
    generalize F3.put g (.cells #[.int .i64 0, .int .i64 0, .int .i64 0, .int .i64 0] 27) = F4 at hU_g hX_g ⊢
    (conv => whnf)
    refine store_step g 0 _ (#[.int .i64 x.f, .int .i64 x.o, .int .i64 x.n, .int .i64 x.a]) rfl hU_g rfl rfl (.inl (Nat.le_refl 0)) (ln_one x) ?_
    have hB_g := Heap.put_same F4 g (.cells #[.int .i64 x.f, .int .i64 x.o, .int .i64 x.n, .int .i64 x.a] 27)
    have hE_g := hX_g (.cells #[.int .i64 x.f, .int .i64 x.o, .int .i64 x.n, .int .i64 x.a] 27)
    clear hU_g hX_g
    generalize F4.put g _ = F4 at hB_g hE_g ⊢
    ((conv => whnf); repeat (first | (apply load_at; (conv => lhs; whnf); (with_reducible assumption); rfl; (conv => whnf)) | (apply load_at; (conv => lhs; rw [add_plain, add_plain]); (with_reducible assumption); rfl; (conv => whnf)) | (apply loads_at; (conv => lhs; whnf); (with_reducible assumption); rfl; (conv => whnf)) | (refine ⟨⟨by omega, by omega⟩, ?_⟩; (conv => whnf))))
    refine ⟨k - 1, by omega, j + 1, by omega, ?_, hE3.trans hE_g⟩
    exact Eq.trans (b := [.slice (some ad) l.length c0, .slice A2 al.length c2, .int .i64 (IntKind.i64.wrap (t + x.a)), .int .i64 0, .int .i64 0, .slice (some ad) l.length c0, .int .i64 (l.length : Int), .int .i64 (IntKind.i64.wrap ((j : Int) + 1))]) rfl (by rw [hj1, ht])
  have hj : j = l.length := by have := of_decide_eq_false (show decide ((j : Int) < (l.length : Int)) = false from h); omega
  subst hj
  rw [e1]
  clear h
  generalize totA l = tt at hdue
  ((conv => whnf); repeat (first | (apply load_at; (conv => lhs; whnf); (with_reducible assumption); rfl; (conv => whnf)) | (apply load_at; (conv => lhs; rw [add_plain, add_plain]); (with_reducible assumption); rfl; (conv => whnf)) | (apply loads_at; (conv => lhs; whnf); (with_reducible assumption); rfl; (conv => whnf)) | (refine ⟨⟨by omega, by omega⟩, ?_⟩; (conv => whnf))))
  refine call_of (k1 F3 (hM2.ext.trans hE3) (by omega)) ?_
  rintro v F4 hM4
  obtain ⟨A4, c4, rfl, _, hr4⟩ := hM4.own.row
  ((conv => whnf); repeat (first | (apply load_at; (conv => lhs; whnf); (with_reducible assumption); rfl; (conv => whnf)) | (apply load_at; (conv => lhs; rw [add_plain, add_plain]); (with_reducible assumption); rfl; (conv => whnf)) | (apply loads_at; (conv => lhs; whnf); (with_reducible assumption); rfl; (conv => whnf)) | (refine ⟨⟨by omega, by omega⟩, ?_⟩; (conv => whnf))))
  refine loop_slots [0, 3, 4, 5, 6, 29, 30, 31] (fun k vs F' => ∃ j : Nat, j + k = b.length ∧ vs = [.slice A0 l.length c0, .slice A2 al.length c2, .int .i64 tt, .int .i64 (debA (b.take j)), .int .i64 (creA (b.take j)), .slice A4 b.length c4, .int .i64 (b.length : Int), .int .i64 (j : Int)] ∧ Ext F4 F') b.length ⟨0, by omega, rfl, Ext.refl _⟩ ?_
  rintro k2 vs F5 ρ2 ⟨j, hjk2, rfl, hE5⟩
  ((conv => whnf); repeat (first | (apply load_at; (conv => lhs; whnf); (with_reducible assumption); rfl; (conv => whnf)) | (apply load_at; (conv => lhs; rw [add_plain, add_plain]); (with_reducible assumption); rfl; (conv => whnf)) | (apply loads_at; (conv => lhs; whnf); (with_reducible assumption); rfl; (conv => whnf)) | (refine ⟨⟨by omega, by omega⟩, ?_⟩; (conv => whnf))))
  refine cond_split (fun h => ?_) (fun h => ?_)
  · have hj : j < b.length := by have := of_decide_eq_true (show decide ((j : Int) < (b.length : Int)) = true from h); omega
    clear h
    have hj1 : IntKind.i64.wrap ((j : Int) + 1) = ((j + 1 : Nat) : Int) := wrap_succ (j := j) (by omega)
    have hde := hd1 j hj
    have hcr := hc1 j hj
    have hx : b[j]? = some b[j] := List.getElem?_eq_getElem hj
    generalize b[j] = x at hx hde hcr
    generalize debA (b.take j) = de at hde
    generalize creA (b.take j) = cr at hcr
    obtain ⟨ad, rfl⟩ := hr4.some (by rw [rowS_len lnC_len]; omega)
    have hL : ∀ K : Value → Prop, K (lnV x) → LoadsK F5 (ad.add (Int.toNat (j : Int) * 4)) 4 K := fun K hk => rowS_loads lnC_len (by decide) (hr4.mono hE5) hx hk
    ((conv => whnf); repeat (first | (apply load_at; (conv => lhs; whnf); (with_reducible assumption); rfl; (conv => whnf)) | (apply load_at; (conv => lhs; rw [add_plain, add_plain]); (with_reducible assumption); rfl; (conv => whnf)) | (apply loads_at; (conv => lhs; whnf); (with_reducible assumption); rfl; (conv => whnf)) | (refine ⟨⟨by omega, by omega⟩, ?_⟩; (conv => whnf))))
    refine hL _ ?_
    ((conv => whnf); repeat (first | (apply load_at; (conv => lhs; whnf); (with_reducible assumption); rfl; (conv => whnf)) | (apply load_at; (conv => lhs; rw [add_plain, add_plain]); (with_reducible assumption); rfl; (conv => whnf)) | (apply loads_at; (conv => lhs; whnf); (with_reducible assumption); rfl; (conv => whnf)) | (refine ⟨⟨by omega, by omega⟩, ?_⟩; (conv => whnf))))
    refine new_step (.cells #[.int .i64 0, .int .i64 0, .int .i64 0, .int .i64 0] 27) rfl fun g h0_g => ?_
    have hU_g := Heap.put_same F5 g (.cells #[.int .i64 0, .int .i64 0, .int .i64 0, .int .i64 0] 27)
    have hX_g := fun o => (ext_put_put h0_g (o := .cells #[.int .i64 0, .int .i64 0, .int .i64 0, .int .i64 0] 27) (o' := o))
    generalize F5.put g (.cells #[.int .i64 0, .int .i64 0, .int .i64 0, .int .i64 0] 27) = F6 at hU_g hX_g ⊢
    (conv => whnf)
    refine store_step g 0 _ (#[.int .i64 x.f, .int .i64 x.o, .int .i64 x.n, .int .i64 x.a]) rfl hU_g rfl rfl (.inl (Nat.le_refl 0)) (ln_one x) ?_
    have hB_g := Heap.put_same F6 g (.cells #[.int .i64 x.f, .int .i64 x.o, .int .i64 x.n, .int .i64 x.a] 27)
    have hE_g := hX_g (.cells #[.int .i64 x.f, .int .i64 x.o, .int .i64 x.n, .int .i64 x.a] 27)
    clear hU_g hX_g
    generalize F6.put g _ = F6 at hB_g hE_g ⊢
    ((conv => whnf); repeat (first | (apply load_at; (conv => lhs; whnf); (with_reducible assumption); rfl; (conv => whnf)) | (apply load_at; (conv => lhs; rw [add_plain, add_plain]); (with_reducible assumption); rfl; (conv => whnf)) | (apply loads_at; (conv => lhs; whnf); (with_reducible assumption); rfl; (conv => whnf)) | (refine ⟨⟨by omega, by omega⟩, ?_⟩; (conv => whnf))))
    refine cond_split (fun h => ?_) (fun h => ?_)
    · have h : (x.o == 1900) = true := h
      have ho : x.o = 1900 := by simpa using h
      rw [if_pos ho] at hde hcr
      clear h
      ((conv => whnf); repeat (first | (apply load_at; (conv => lhs; whnf); (with_reducible assumption); rfl; (conv => whnf)) | (apply load_at; (conv => lhs; rw [add_plain, add_plain]); (with_reducible assumption); rfl; (conv => whnf)) | (apply loads_at; (conv => lhs; whnf); (with_reducible assumption); rfl; (conv => whnf)) | (refine ⟨⟨by omega, by omega⟩, ?_⟩; (conv => whnf))))
      refine ⟨k2 - 1, by omega, j + 1, by omega, ?_, hE5.trans hE_g⟩
      exact Eq.trans (b := [.slice A0 l.length c0, .slice A2 al.length c2, .int .i64 tt, .int .i64 (IntKind.i64.wrap (de + x.a)), .int .i64 cr, .slice (some ad) b.length c4, .int .i64 (b.length : Int), .int .i64 (IntKind.i64.wrap ((j : Int) + 1))]) rfl (by rw [hj1, hde, hcr])
    · have h : (x.o == 1900) = false := h
      have ho : ¬ x.o = 1900 := by simpa using h
      rw [if_neg ho] at hde hcr
      clear h
      ((conv => whnf); repeat (first | (apply load_at; (conv => lhs; whnf); (with_reducible assumption); rfl; (conv => whnf)) | (apply load_at; (conv => lhs; rw [add_plain, add_plain]); (with_reducible assumption); rfl; (conv => whnf)) | (apply loads_at; (conv => lhs; whnf); (with_reducible assumption); rfl; (conv => whnf)) | (refine ⟨⟨by omega, by omega⟩, ?_⟩; (conv => whnf))))
      refine ⟨k2 - 1, by omega, j + 1, by omega, ?_, hE5.trans hE_g⟩
      exact Eq.trans (b := [.slice A0 l.length c0, .slice A2 al.length c2, .int .i64 tt, .int .i64 de, .int .i64 (IntKind.i64.wrap (cr - x.a)), .slice (some ad) b.length c4, .int .i64 (b.length : Int), .int .i64 (IntKind.i64.wrap ((j : Int) + 1))]) rfl (by rw [hj1, hde, hcr])
  have hj : j = b.length := by have := of_decide_eq_false (show decide ((j : Int) < (b.length : Int)) = false from h); omega
  subst hj
  rw [e2, e3]
  clear h
  generalize debA b = de at hdue
  generalize creA b = cr at hdue
  have E5 : Ext F2 F5 := hE3.trans (hM4.ext.trans hE5)
  have w1 : IntKind.i64.wrap (2 * (l.length : Int)) = ((2 * l.length : Nat) : Int) := by rw [IntKind.wrap_i64]; omega
  ((conv => whnf); repeat (first | (apply load_at; (conv => lhs; whnf); (with_reducible assumption); rfl; (conv => whnf)) | (apply load_at; (conv => lhs; rw [add_plain, add_plain]); (with_reducible assumption); rfl; (conv => whnf)) | (apply loads_at; (conv => lhs; whnf); (with_reducible assumption); rfl; (conv => whnf)) | (refine ⟨⟨by omega, by omega⟩, ?_⟩; (conv => whnf))))
  refine call_of (k4 A2 c2 F5 (hr2.mono E5) (by omega)) ?_
  rintro v F6 ⟨rfl, hE6⟩
  refine short [0, 3, 4, 5, 6, 48] [.slice A0 l.length c0, .slice A2 al.length c2, .int .i64 tt, .int .i64 de, .int .i64 cr, .bool true] rfl fun ρ => ?_
  ((conv => whnf); repeat (first | (apply load_at; (conv => lhs; whnf); (with_reducible assumption); rfl; (conv => whnf)) | (apply load_at; (conv => lhs; rw [add_plain, add_plain]); (with_reducible assumption); rfl; (conv => whnf)) | (apply loads_at; (conv => lhs; whnf); (with_reducible assumption); rfl; (conv => whnf)) | (refine ⟨⟨by omega, by omega⟩, ?_⟩; (conv => whnf))))
  refine call_of (k5 A2 c2 F6 (hr2.mono (E5.trans hE6)) (by omega)) ?_
  rintro v F7 ⟨rfl, hE7⟩
  have hle : ¬ ¬ (al.length : Int) ≤ IntKind.i64.wrap (2 * (l.length : Int)) := by rw [w1]; omega
  have E7 : Ext F1 F7 := hM2.ext.trans (E5.trans (hE6.trans hE7))
  refine short [0, 3, 4, 5, 6, 49, 51] [.slice A0 l.length c0, .slice A2 al.length c2, .int .i64 tt, .int .i64 de, .int .i64 cr, .bool true, .bool true] rfl fun ρ => ?_
  ((conv => whnf); repeat (first | (apply load_at; (conv => lhs; whnf); (with_reducible assumption); rfl; (conv => whnf)) | (apply load_at; (conv => lhs; rw [add_plain, add_plain]); (with_reducible assumption); rfl; (conv => whnf)) | (apply loads_at; (conv => lhs; whnf); (with_reducible assumption); rfl; (conv => whnf)) | (refine ⟨⟨by omega, by omega⟩, ?_⟩; (conv => whnf))))
  refine cond_split (fun h => ?_) (fun h => ?_)
  · have h : (!(tt != 0)) = true := h
    have h0 : tt = 0 := by simpa using h
    have hdc := hdue h0
    subst hdc
    clear h
    ((conv => whnf); repeat (first | (apply load_at; (conv => lhs; whnf); (with_reducible assumption); rfl; (conv => whnf)) | (apply load_at; (conv => lhs; rw [add_plain, add_plain]); (with_reducible assumption); rfl; (conv => whnf)) | (apply loads_at; (conv => lhs; whnf); (with_reducible assumption); rfl; (conv => whnf)) | (refine ⟨⟨by omega, by omega⟩, ?_⟩; (conv => whnf))))
    refine cond_split (fun _ => ?_) (fun h3 => absurd (show (de == de) = false from h3) (by simp))
    ((conv => whnf); repeat (first | (apply load_at; (conv => lhs; whnf); (with_reducible assumption); rfl; (conv => whnf)) | (apply load_at; (conv => lhs; rw [add_plain, add_plain]); (with_reducible assumption); rfl; (conv => whnf)) | (apply loads_at; (conv => lhs; whnf); (with_reducible assumption); rfl; (conv => whnf)) | (refine ⟨⟨by omega, by omega⟩, ?_⟩; (conv => whnf))))
    refine cond_split (fun _ => ?_) (fun h2 => absurd (of_decide_eq_false (show decide ((al.length : Int) ≤ IntKind.i64.wrap (2 * (l.length : Int))) = false from h2)) hle)
    ((conv => whnf); repeat (first | (apply load_at; (conv => lhs; whnf); (with_reducible assumption); rfl; (conv => whnf)) | (apply load_at; (conv => lhs; rw [add_plain, add_plain]); (with_reducible assumption); rfl; (conv => whnf)) | (apply loads_at; (conv => lhs; whnf); (with_reducible assumption); rfl; (conv => whnf)) | (refine ⟨⟨by omega, by omega⟩, ?_⟩; (conv => whnf))))
    refine call_of (out F7 E7) ?_
    rintro v F8 ⟨rfl, hE⟩
    ((conv => whnf); repeat (first | (apply load_at; (conv => lhs; whnf); (with_reducible assumption); rfl; (conv => whnf)) | (apply load_at; (conv => lhs; rw [add_plain, add_plain]); (with_reducible assumption); rfl; (conv => whnf)) | (apply loads_at; (conv => lhs; whnf); (with_reducible assumption); rfl; (conv => whnf)) | (refine ⟨⟨by omega, by omega⟩, ?_⟩; (conv => whnf))))
    exact ⟨rfl, hE⟩
  · clear h
    ((conv => whnf); repeat (first | (apply load_at; (conv => lhs; whnf); (with_reducible assumption); rfl; (conv => whnf)) | (apply load_at; (conv => lhs; rw [add_plain, add_plain]); (with_reducible assumption); rfl; (conv => whnf)) | (apply loads_at; (conv => lhs; whnf); (with_reducible assumption); rfl; (conv => whnf)) | (refine ⟨⟨by omega, by omega⟩, ?_⟩; (conv => whnf))))
    refine cond_split (fun _ => ?_) (fun h2 => absurd (of_decide_eq_false (show decide ((al.length : Int) ≤ IntKind.i64.wrap (2 * (l.length : Int))) = false from h2)) hle)
    ((conv => whnf); repeat (first | (apply load_at; (conv => lhs; whnf); (with_reducible assumption); rfl; (conv => whnf)) | (apply load_at; (conv => lhs; rw [add_plain, add_plain]); (with_reducible assumption); rfl; (conv => whnf)) | (apply loads_at; (conv => lhs; whnf); (with_reducible assumption); rfl; (conv => whnf)) | (refine ⟨⟨by omega, by omega⟩, ?_⟩; (conv => whnf))))
    refine call_of (out F7 E7) ?_
    rintro v F8 ⟨rfl, hE⟩
    ((conv => whnf); repeat (first | (apply load_at; (conv => lhs; whnf); (with_reducible assumption); rfl; (conv => whnf)) | (apply load_at; (conv => lhs; rw [add_plain, add_plain]); (with_reducible assumption); rfl; (conv => whnf)) | (apply loads_at; (conv => lhs; whnf); (with_reducible assumption); rfl; (conv => whnf)) | (refine ⟨⟨by omega, by omega⟩, ?_⟩; (conv => whnf))))
    exact ⟨rfl, hE⟩
end Go.Proofs.Ytpbpjmnnbmjmbaa.AlInterfEqual

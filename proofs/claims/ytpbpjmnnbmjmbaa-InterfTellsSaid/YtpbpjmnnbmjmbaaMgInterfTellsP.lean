/- The law InterfTells holds of the program: proved over what is known of memory, each function by its contract. -/
import Derived.Test.YtpbpjmnnbmjmbaaMgInterfTellsLaw
import Derived.Test.YtpbpjmnnbmjmbaaMgInfT1
import Derived.Test.YtpbpjmnnbmjmbaaMgInfT2
import Derived.Test.YtpbpjmnnbmjmbaaMgInfT3
namespace Go.Proofs.Ytpbpjmnnbmjmbaa.AlInterfTells
open Go Go.Al Go.Proofs Go.RowKit Go.Proofs.Ytpbpjmnnbmjmbaa.Al
set_option maxHeartbeats 8000000
set_option maxRecDepth 100000
set_option linter.unusedVariables false
set_option linter.unusedSimpArgs false
theorem ln_open {F : Heap} {A : Option Addr} {xs : List (Int × (Int × (Int × Int)))} (w : ∀ x ∈ xs, IntKind.i64.wrap x.2.2.2 = x.2.2.2) (h : Elems F A 4 (kPair 1 (kInt .i64) (kPair 1 (kInt .i64) (kPair 1 (kInt .i64) (kInt .i64)))) xs) : ∃ rs : List LnD, rs.length = xs.length ∧ RowAt F A (rowS lnC rs) ∧ ∀ x ∈ rs, IntKind.i64.wrap x.a = x.a := by
  obtain ⟨rs, h1, h2, h3⟩ := rowS_open (f := lnC) (G := fun x => IntKind.i64.wrap x.2.2.2 = x.2.2.2) (Q := fun (r : LnD) x => IntKind.i64.wrap r.a = r.a) lnC_len (by decide) w h (by
    rintro ⟨f, o, n, a⟩ c hG hK
    obtain ⟨c1, d1, rfl, hl1, rfl, c2, d2, rfl, hl2, rfl, c3, d3, rfl, hl3, rfl, rfl⟩ := hK
    exact ⟨⟨f, o, n, a⟩, rfl, hG⟩)
  refine ⟨rs, h1, h2, fun x hx => ?_⟩
  obtain ⟨j, hj, rfl⟩ := List.mem_iff_getElem.1 hx
  exact h3 j _ _ (List.getElem?_eq_getElem hj) (List.getElem?_eq_getElem (by omega))
theorem law : LawK := by
  intro F x0 w0 A0 c0 hc0 hK0
  obtain ⟨l, hll, hr, hwa⟩ := ln_open (fun x hx => by
    have := (w0.2 x hx).2.2.2
    have h1 : IntKind.i64.min ≤ x.2.2.2 ∧ x.2.2.2 ≤ 9223372036854775807 := by simpa [Lit.wf] using this
    rw [show IntKind.i64.min = -9223372036854775808 from by decide] at h1
    rw [IntKind.wrap_i64]
    omega) hK0
  rw [← hll]
  clear hK0 w0 hc0
  have out : ∀ F', Ext F F' → FnK Try.prog 6 #[] F' (fun v F' => v = .bool true ∧ Ext F F') := fun F' hF' => (awake24 F').mono fun v G h => ⟨h.1, hF'.trans h.2⟩
  have k1 := fun h => balance funds l A0 c0 F hr h hwa
  have k2 := fun F' hE h => rbalance l A0 c0 F' (hr.mono hE) h
  have k3 := fun F' hE h => all l A0 c0 F' (hr.mono hE) h hwa
  have k4 := fun F' hE h => rall l A0 c0 F' (hr.mono hE) h
  have hal := allS_len l
  have hbl := balS_len l
  have hfl := funds_len l
  generalize balS l = b at k1 k2 hbl
  generalize allS l = al at k3 k4 hal
  (refine fn_walk tab_ok Try.func3 rfl rfl rfl rfl ?_; (conv => whnf))
  refine call_of (fewL _ _ _ _) ?_
  rintro v F1 ⟨rfl, rfl⟩
  ((conv => whnf); repeat (first | (apply load_at; (conv => lhs; whnf); (with_reducible assumption); rfl; (conv => whnf)) | (apply load_at; (conv => lhs; rw [add_plain, add_plain]); (with_reducible assumption); rfl; (conv => whnf)) | (apply loads_at; (conv => lhs; whnf); (with_reducible assumption); rfl; (conv => whnf)) | (refine ⟨⟨by omega, by omega⟩, ?_⟩; (conv => whnf))))
  cases hd : decide ((l.length : Int) ≤ 30) with
  | false =>
    ((conv => whnf); repeat (first | (apply load_at; (conv => lhs; whnf); (with_reducible assumption); rfl; (conv => whnf)) | (apply load_at; (conv => lhs; rw [add_plain, add_plain]); (with_reducible assumption); rfl; (conv => whnf)) | (apply loads_at; (conv => lhs; whnf); (with_reducible assumption); rfl; (conv => whnf)) | (refine ⟨⟨by omega, by omega⟩, ?_⟩; (conv => whnf))))
    refine call_of (out F1 (Ext.refl _)) ?_
    rintro v F2 ⟨rfl, hE⟩
    ((conv => whnf); repeat (first | (apply load_at; (conv => lhs; whnf); (with_reducible assumption); rfl; (conv => whnf)) | (apply load_at; (conv => lhs; rw [add_plain, add_plain]); (with_reducible assumption); rfl; (conv => whnf)) | (apply loads_at; (conv => lhs; whnf); (with_reducible assumption); rfl; (conv => whnf)) | (refine ⟨⟨by omega, by omega⟩, ?_⟩; (conv => whnf))))
    exact ⟨rfl, hE⟩
  | true =>
  have hn : l.length ≤ 30 := by have := of_decide_eq_true hd; omega
  ((conv => whnf); repeat (first | (apply load_at; (conv => lhs; whnf); (with_reducible assumption); rfl; (conv => whnf)) | (apply load_at; (conv => lhs; rw [add_plain, add_plain]); (with_reducible assumption); rfl; (conv => whnf)) | (apply loads_at; (conv => lhs; whnf); (with_reducible assumption); rfl; (conv => whnf)) | (refine ⟨⟨by omega, by omega⟩, ?_⟩; (conv => whnf))))
  refine call_of (k1 (by omega)) ?_
  rintro v F2 hM2
  obtain ⟨A2, c2, rfl, _, hr2⟩ := hM2.own.row
  ((conv => whnf); repeat (first | (apply load_at; (conv => lhs; whnf); (with_reducible assumption); rfl; (conv => whnf)) | (apply load_at; (conv => lhs; rw [add_plain, add_plain]); (with_reducible assumption); rfl; (conv => whnf)) | (apply loads_at; (conv => lhs; whnf); (with_reducible assumption); rfl; (conv => whnf)) | (refine ⟨⟨by omega, by omega⟩, ?_⟩; (conv => whnf))))
  refine call_of (k2 F2 hM2.ext (by omega)) ?_
  rintro v F3 hM3
  obtain ⟨A3, c3, rfl, _, hr3⟩ := hM3.own.row
  ((conv => whnf); repeat (first | (apply load_at; (conv => lhs; whnf); (with_reducible assumption); rfl; (conv => whnf)) | (apply load_at; (conv => lhs; rw [add_plain, add_plain]); (with_reducible assumption); rfl; (conv => whnf)) | (apply loads_at; (conv => lhs; whnf); (with_reducible assumption); rfl; (conv => whnf)) | (refine ⟨⟨by omega, by omega⟩, ?_⟩; (conv => whnf))))
  refine call_of (eqLn (hr2.mono hM3.ext) hr3 rfl (by omega)) ?_
  rintro v F4 ⟨rfl, rfl⟩
  refine short [0, 11] [.slice A0 l.length c0, .bool true] rfl fun ρ => ?_
  have E4 := hM2.ext.trans hM3.ext
  ((conv => whnf); repeat (first | (apply load_at; (conv => lhs; whnf); (with_reducible assumption); rfl; (conv => whnf)) | (apply load_at; (conv => lhs; rw [add_plain, add_plain]); (with_reducible assumption); rfl; (conv => whnf)) | (apply loads_at; (conv => lhs; whnf); (with_reducible assumption); rfl; (conv => whnf)) | (refine ⟨⟨by omega, by omega⟩, ?_⟩; (conv => whnf))))
  refine call_of (k3 F4 E4 (by omega)) ?_
  rintro v F5 hM5
  obtain ⟨A5, c5, rfl, _, hr5⟩ := hM5.own.row
  ((conv => whnf); repeat (first | (apply load_at; (conv => lhs; whnf); (with_reducible assumption); rfl; (conv => whnf)) | (apply load_at; (conv => lhs; rw [add_plain, add_plain]); (with_reducible assumption); rfl; (conv => whnf)) | (apply loads_at; (conv => lhs; whnf); (with_reducible assumption); rfl; (conv => whnf)) | (refine ⟨⟨by omega, by omega⟩, ?_⟩; (conv => whnf))))
  refine call_of (k4 F5 (E4.trans hM5.ext) (by omega)) ?_
  rintro v F6 hM6
  obtain ⟨A6, c6, rfl, _, hr6⟩ := hM6.own.row
  ((conv => whnf); repeat (first | (apply load_at; (conv => lhs; whnf); (with_reducible assumption); rfl; (conv => whnf)) | (apply load_at; (conv => lhs; rw [add_plain, add_plain]); (with_reducible assumption); rfl; (conv => whnf)) | (apply loads_at; (conv => lhs; whnf); (with_reducible assumption); rfl; (conv => whnf)) | (refine ⟨⟨by omega, by omega⟩, ?_⟩; (conv => whnf))))
  refine call_of (eqLn (hr5.mono hM6.ext) hr6 rfl (by omega)) ?_
  rintro v F7 ⟨rfl, rfl⟩
  refine short [12, 17] [.bool true, .bool true] rfl fun ρ => ?_
  ((conv => whnf); repeat (first | (apply load_at; (conv => lhs; whnf); (with_reducible assumption); rfl; (conv => whnf)) | (apply load_at; (conv => lhs; rw [add_plain, add_plain]); (with_reducible assumption); rfl; (conv => whnf)) | (apply loads_at; (conv => lhs; whnf); (with_reducible assumption); rfl; (conv => whnf)) | (refine ⟨⟨by omega, by omega⟩, ?_⟩; (conv => whnf))))
  refine call_of (out F7 (E4.trans (hM5.ext.trans hM6.ext))) ?_
  rintro v F8 ⟨rfl, hE⟩
  ((conv => whnf); repeat (first | (apply load_at; (conv => lhs; whnf); (with_reducible assumption); rfl; (conv => whnf)) | (apply load_at; (conv => lhs; rw [add_plain, add_plain]); (with_reducible assumption); rfl; (conv => whnf)) | (apply loads_at; (conv => lhs; whnf); (with_reducible assumption); rfl; (conv => whnf)) | (refine ⟨⟨by omega, by omega⟩, ?_⟩; (conv => whnf))))
  exact ⟨rfl, hE⟩
end Go.Proofs.Ytpbpjmnnbmjmbaa.AlInterfTells

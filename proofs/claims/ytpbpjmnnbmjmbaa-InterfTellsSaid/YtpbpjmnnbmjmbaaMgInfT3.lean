/- Texts of this claim, joined: InfH InfI. -/
import Derived.Test.YtpbpjmnnbmjmbaaMgInfT1
import Derived.Test.YtpbpjmnnbmjmbaaMgInfT2
/- Interfund lines: All, twice; few lines; the law's own example. -/
namespace Go.Proofs.Ytpbpjmnnbmjmbaa.Al
open Go Go.Al Go.Proofs Go.RowKit
set_option maxHeartbeats 8000000
set_option maxRecDepth 100000
set_option linter.unusedVariables false
set_option linter.unusedSimpArgs false
def allS (l : List LnD) : List LnD := l ++ balS l
theorem allS_len (l : List LnD) : (allS l).length ≤ 2 * l.length := by
  have h1 := balS_len l
  have h2 := funds_len l
  unfold allS
  rw [List.length_append]
  omega
theorem all (l : List LnD) (A : Option Addr) (c : Nat) (F : Heap) (hr : RowAt F A (rowS lnC l)) (hl : l.length ≤ 1000) (hwa : ∀ x ∈ l, IntKind.i64.wrap x.a = x.a) :
    FnK Try.prog 10 #[.slice A l.length c] F (fun v F' => Mine F F' v 27 4 (allS l).length (rowS lnC (allS l))) := by
  have hcall := balance funds l A c F hr hl hwa
  have hbl := balS_len l
  have hfl := funds_len l
  have hdef : allS l = l ++ balS l := rfl
  generalize allS l = al at hdef
  generalize balS l = b at hcall hbl hdef
  subst hdef
  (refine fn_walk tab_ok Try.func10 rfl rfl rfl rfl ?_; (conv => whnf))
  refine call_of hcall ?_
  rintro v F1 hM
  obtain ⟨A2, c2, rfl, hc2, hr2⟩ := hM.own.row
  ((conv => whnf); repeat (first | (apply load_at; (conv => lhs; whnf); (with_reducible assumption); rfl; (conv => whnf)) | (apply load_at; (conv => lhs; rw [add_plain, add_plain]); (with_reducible assumption); rfl; (conv => whnf)) | (apply loads_at; (conv => lhs; whnf); (with_reducible assumption); rfl; (conv => whnf)) | (refine ⟨⟨by omega, by omega⟩, ?_⟩; (conv => whnf))))
  refine new_step (.cells #[.slice A l.length c, .slice A2 b.length c2] 22) rfl fun g h0_g => ?_
  have hE_g := Ext.new h0_g (.cells #[.slice A l.length c, .slice A2 b.length c2] 22)
  have hB_g := Heap.put_same F1 g (.cells #[.slice A l.length c, .slice A2 b.length c2] 22)
  generalize F1.put g _ = F2 at hE_g hB_g ⊢
  ((conv => whnf); repeat (first | (apply load_at; (conv => lhs; whnf); (with_reducible assumption); rfl; (conv => whnf)) | (apply load_at; (conv => lhs; rw [add_plain, add_plain]); (with_reducible assumption); rfl; (conv => whnf)) | (apply loads_at; (conv => lhs; whnf); (with_reducible assumption); rfl; (conv => whnf)) | (refine ⟨⟨by omega, by omega⟩, ?_⟩; (conv => whnf))))
  have hrow := row_blk hB_g
  rw [List.toList_toArray] at hrow
  have hfl2 : flat [(l, A, c), (b, A2, c2)] = l ++ b := by simp [flat]
  have k := concat [(l, A, c), (b, A2, c2)] (some ⟨g, 0, none⟩) 2 F2 hrow (fun p hp => by
    rcases List.mem_cons.1 hp with rfl | hp
    · exact hr.mono (hM.ext.trans hE_g)
    · rw [List.mem_singleton.1 hp]; exact hr2.mono hE_g) (by show 2 ≤ 1000; omega) (by rw [hfl2, List.length_append]; omega)
  rw [hfl2] at k
  refine call_of k ?_
  rintro v F3 hM3
  ((conv => whnf); repeat (first | (apply load_at; (conv => lhs; whnf); (with_reducible assumption); rfl; (conv => whnf)) | (apply load_at; (conv => lhs; rw [add_plain, add_plain]); (with_reducible assumption); rfl; (conv => whnf)) | (apply loads_at; (conv => lhs; whnf); (with_reducible assumption); rfl; (conv => whnf)) | (refine ⟨⟨by omega, by omega⟩, ?_⟩; (conv => whnf))))
  exact hM3.down (hM.ext.trans hE_g)
theorem rall (l : List LnD) (A : Option Addr) (c : Nat) (F : Heap) (hr : RowAt F A (rowS lnC l)) (hl : l.length ≤ 1000) :
    FnK Try.prog 11 #[.slice A l.length c] F (fun v F' => Mine F F' v 27 4 (allS l).length (rowS lnC (allS l))) := by
  have hcall := fun F hr => rbalance l A c F hr hl
  have hbl := balS_len l
  have hfl := funds_len l
  have hdef : allS l = l ++ balS l := rfl
  generalize allS l = al at hdef
  generalize balS l = b at hcall hbl hdef
  subst hdef
  (refine fn_walk tab_ok Try.func11 rfl rfl rfl rfl ?_; (conv => whnf))
  refine append_mine tab_ok rfl rfl rfl rfl rfl ⟨_, rfl, fun k h => by cases h⟩ ⟨_, rfl, rfl⟩ (by decide) (Mine.nil F F _ _ (Ext.refl _)) (m := l.length) (ys := rowS lnC l) (y := .slice A l.length c) ⟨by rw [rowS_len lnC_len], .inl ⟨_, _, rfl, hr⟩⟩ (lns_one _) (by show 2 * (0 + l.length) * 32 ≤ _; omega) fun s1 F1 hM1 _ => ?_
  rw [Nat.zero_add, List.nil_append] at hM1
  ((conv => whnf); repeat (first | (apply load_at; (conv => lhs; whnf); (with_reducible assumption); rfl; (conv => whnf)) | (apply load_at; (conv => lhs; rw [add_plain, add_plain]); (with_reducible assumption); rfl; (conv => whnf)) | (apply loads_at; (conv => lhs; whnf); (with_reducible assumption); rfl; (conv => whnf)) | (refine ⟨⟨by omega, by omega⟩, ?_⟩; (conv => whnf))))
  refine call_of (hcall F1 (hr.mono hM1.ext)) ?_
  rintro v F2 hM2
  obtain ⟨A2, c2, rfl, hc2, hr2⟩ := hM2.own.row
  ((conv => whnf); repeat (first | (apply load_at; (conv => lhs; whnf); (with_reducible assumption); rfl; (conv => whnf)) | (apply load_at; (conv => lhs; rw [add_plain, add_plain]); (with_reducible assumption); rfl; (conv => whnf)) | (apply loads_at; (conv => lhs; whnf); (with_reducible assumption); rfl; (conv => whnf)) | (refine ⟨⟨by omega, by omega⟩, ?_⟩; (conv => whnf))))
  refine append_mine tab_ok rfl rfl rfl rfl rfl ⟨_, rfl, fun k h => by cases h⟩ ⟨_, rfl, rfl⟩ (by decide) (hM1.mono hM2.ext) (m := b.length) (ys := rowS lnC b) (y := .slice A2 b.length c2) ⟨by rw [rowS_len lnC_len], .inl ⟨_, _, rfl, hr2⟩⟩ (lns_one _) (by show 2 * (l.length + b.length) * 32 ≤ _; omega) fun s3 F3 hM3 _ => ?_
  ((conv => whnf); repeat (first | (apply load_at; (conv => lhs; whnf); (with_reducible assumption); rfl; (conv => whnf)) | (apply load_at; (conv => lhs; rw [add_plain, add_plain]); (with_reducible assumption); rfl; (conv => whnf)) | (apply loads_at; (conv => lhs; whnf); (with_reducible assumption); rfl; (conv => whnf)) | (refine ⟨⟨by omega, by omega⟩, ?_⟩; (conv => whnf))))
  rw [List.length_append, rowZ_app]
  exact hM3
theorem fewL (A : Option Addr) (n c : Nat) (F : Heap) : FnK Try.prog 5 #[.slice A n c] F (fun v F' => v = .bool (decide ((n : Int) ≤ 30)) ∧ F' = F) := by
  (refine fn_walk tab_ok Try.func5 rfl rfl rfl rfl ?_; (conv => whnf))
  exact ⟨rfl, rfl⟩
theorem eqLn {x y : List LnD} {A B : Option Addr} {c e : Nat} {F : Heap} (hx : RowAt F A (rowS lnC x)) (hy : RowAt F B (rowS lnC y)) (h : x = y) (hl : x.length ≤ 100000) : FnK Try.prog 7 #[.slice A x.length c, .slice B y.length e] F (fun v F' => v = .bool true ∧ F' = F) :=
  (slicesEqualL x y A B c e F hx hy hl (by rw [← h]; exact hl)).mono fun v F' ⟨⟨z, hv, hz⟩, hF⟩ => ⟨by rw [hv, hz.2 h], hF⟩
end Go.Proofs.Ytpbpjmnnbmjmbaa.Al
/- Interfund lines: the law's own example. -/
namespace Go.Proofs.Ytpbpjmnnbmjmbaa.Al
open Go Go.Al Go.Proofs Go.RowKit
set_option maxHeartbeats 8000000
set_option maxRecDepth 100000
set_option linter.unusedVariables false
set_option linter.unusedSimpArgs false
theorem hb1 : fundsS [⟨100, 5010, 0, 5⟩, ⟨200, 1010, 0, -5⟩] = [⟨100, 0, 0, 5⟩, ⟨200, 0, 0, -5⟩] := by kernel_rfl
theorem hb2 : owedS ⟨100, 0, 0, 5⟩ = [⟨100, 2900, 0, -5⟩] := by kernel_rfl
theorem hb3 : owedS ⟨200, 0, 0, -5⟩ = [⟨200, 1900, 0, 5⟩] := by kernel_rfl
theorem hb4 : balS [⟨100, 5010, 0, 5⟩, ⟨200, 1010, 0, -5⟩] = [⟨100, 2900, 0, -5⟩, ⟨200, 1900, 0, 5⟩] := by
  unfold balS
  rw [hb1, List.flatMap_cons, List.flatMap_cons, hb2, hb3]
  rfl
theorem hb5 : ∀ x ∈ ([⟨100, 5010, 0, 5⟩, ⟨200, 1010, 0, -5⟩] : List LnD), IntKind.i64.wrap x.a = x.a := by
  intro x hx
  rcases List.mem_cons.1 hx with rfl | hx
  · show IntKind.i64.wrap 5 = 5; decide
  · rw [List.mem_singleton.1 hx]; show IntKind.i64.wrap (-5) = -5; decide
theorem hb6 (A : Option Addr) (c : Nat) (F : Heap) (hr : RowAt F A (rowS lnC [⟨100, 5010, 0, 5⟩, ⟨200, 1010, 0, -5⟩])) : FnK Try.prog 8 #[.slice A 2 c] F (fun v F' => Mine F F' v 27 4 2 (rowS lnC [⟨100, 2900, 0, -5⟩, ⟨200, 1900, 0, 5⟩])) := by
  have h := balance funds [⟨100, 5010, 0, 5⟩, ⟨200, 1010, 0, -5⟩] A c F hr (by decide) hb5
  rw [hb4] at h
  exact h
theorem hb7 (A B : Option Addr) (c e : Nat) (F : Heap) (hx : RowAt F A (rowS lnC [⟨100, 2900, 0, -5⟩, ⟨200, 1900, 0, 5⟩])) (hy : RowAt F B (rowS lnC [⟨100, 2900, 0, -5⟩, ⟨200, 1900, 0, 5⟩])) : FnK Try.prog 7 #[.slice A 2 c, .slice B 2 e] F (fun v F' => v = .bool true ∧ F' = F) :=
  eqLn (x := [⟨100, 2900, 0, -5⟩, ⟨200, 1900, 0, 5⟩]) (y := [⟨100, 2900, 0, -5⟩, ⟨200, 1900, 0, 5⟩]) hx hy rfl (by decide)
theorem awake24 (F : Heap) : FnK Try.prog 6 #[] F (fun v F' => v = .bool true ∧ Ext F F') := by
  have kb := hb6
  (refine fn_walk tab_ok Try.func6 rfl rfl rfl rfl ?_; (conv => whnf))
  refine new_step (.cells (rowS lnC [⟨100, 5010, 0, 5⟩, ⟨200, 1010, 0, -5⟩]).toArray 27) rfl fun g h0_g => ?_
  have hE_g := Ext.new h0_g (.cells (rowS lnC [⟨100, 5010, 0, 5⟩, ⟨200, 1010, 0, -5⟩]).toArray 27)
  have hB_g := Heap.put_same F g (.cells (rowS lnC [⟨100, 5010, 0, 5⟩, ⟨200, 1010, 0, -5⟩]).toArray 27)
  generalize F.put g _ = F1 at hE_g hB_g ⊢
  ((conv => whnf); repeat (first | (apply load_at; (conv => lhs; whnf); (with_reducible assumption); rfl; (conv => whnf)) | (apply load_at; (conv => lhs; rw [add_plain, add_plain]); (with_reducible assumption); rfl; (conv => whnf)) | (apply loads_at; (conv => lhs; whnf); (with_reducible assumption); rfl; (conv => whnf)) | (refine ⟨⟨by omega, by omega⟩, ?_⟩; (conv => whnf))))
  have hrow := row_blk hB_g
  rw [List.toList_toArray] at hrow
  refine call_of (kb (some ⟨g, 0, none⟩) 2 F1 hrow) ?_
  rintro v F2 hM
  obtain ⟨A2, c2, rfl, hc2, hr2⟩ := hM.own.row
  ((conv => whnf); repeat (first | (apply load_at; (conv => lhs; whnf); (with_reducible assumption); rfl; (conv => whnf)) | (apply load_at; (conv => lhs; rw [add_plain, add_plain]); (with_reducible assumption); rfl; (conv => whnf)) | (apply loads_at; (conv => lhs; whnf); (with_reducible assumption); rfl; (conv => whnf)) | (refine ⟨⟨by omega, by omega⟩, ?_⟩; (conv => whnf))))
  refine new_step (.cells (rowS lnC [⟨100, 2900, 0, -5⟩, ⟨200, 1900, 0, 5⟩]).toArray 27) rfl fun k h0_k => ?_
  have hE_k := Ext.new h0_k (.cells (rowS lnC [⟨100, 2900, 0, -5⟩, ⟨200, 1900, 0, 5⟩]).toArray 27)
  have hB_k := Heap.put_same F2 k (.cells (rowS lnC [⟨100, 2900, 0, -5⟩, ⟨200, 1900, 0, 5⟩]).toArray 27)
  generalize F2.put k _ = F3 at hE_k hB_k ⊢
  ((conv => whnf); repeat (first | (apply load_at; (conv => lhs; whnf); (with_reducible assumption); rfl; (conv => whnf)) | (apply load_at; (conv => lhs; rw [add_plain, add_plain]); (with_reducible assumption); rfl; (conv => whnf)) | (apply loads_at; (conv => lhs; whnf); (with_reducible assumption); rfl; (conv => whnf)) | (refine ⟨⟨by omega, by omega⟩, ?_⟩; (conv => whnf))))
  have hrow3 := row_blk hB_k
  rw [List.toList_toArray] at hrow3
  have ke := hb7 A2 (some ⟨k, 0, none⟩) c2 2 F3 (hr2.mono hE_k) hrow3
  refine call_of ke ?_
  rintro v F4 ⟨rfl, rfl⟩
  ((conv => whnf); repeat (first | (apply load_at; (conv => lhs; whnf); (with_reducible assumption); rfl; (conv => whnf)) | (apply load_at; (conv => lhs; rw [add_plain, add_plain]); (with_reducible assumption); rfl; (conv => whnf)) | (apply loads_at; (conv => lhs; whnf); (with_reducible assumption); rfl; (conv => whnf)) | (refine ⟨⟨by omega, by omega⟩, ?_⟩; (conv => whnf))))
  exact ⟨rfl, hE_g.trans (hM.ext.trans hE_k)⟩
end Go.Proofs.Ytpbpjmnnbmjmbaa.Al

/- Texts of this claim, joined: DirD DirF DirG. -/
import Derived.Test.YtmpiggcooboenaaDoorMgDir1
import Derived.Test.YtmpiggcooboenaaDoorMgDir2
import Derived.Test.YtmpiggcooboenaaDoorMgDir3
import Derived.Test.YtmpiggcooboenaaDoorMgDir4
import Derived.Test.YtmpiggcooboenaaDoorMgDir5
import Derived.Test.YtmpiggcooboenaaDoorMgDir6
/- Directories: the reference's Set. -/
namespace Go.Proofs.YtmpiggcooboenaaDoor.Al
open Go Go.Al Go.Proofs Go.RowKit
set_option maxHeartbeats 8000000
set_option maxRecDepth 100000
set_option linter.unusedVariables false
set_option linter.unusedSimpArgs false
theorem rdirSet {X F : Heap} {xb : Nat} {r : RS} {q : Int} {S : PgL} (hE : Ext X F) (hX : Rp X xb r q S) (d f n k : Int) (A : Option Addr) (ms : List Int) (c : Nat) (slot page : Int) (hr : RowAt F A (ms.map (.int .i64))) (hl : ms.length ≤ 1000000) (hn2 : S.length < 100000) :
    FnK Tryd.prog 12 #[.pointer (some ⟨xb, 0, none⟩), .agg (mtC d f n k A ms.length c), .int .i64 slot, .int .i64 page] F (fun v F' => v = .int .i64 (dsE rsO r S d ms slot page) ∧ ∃ X', Moves X F X' F' ∧ Rp X' xb r q (dsS rsO r S d ms slot page)) := by
  have k1 := fun F => rright_ d f n k A ms c slot F hl
  have k2 := fun F hE => rpGet (F := F) hE hX (fdP d ms slot)
  have k3 := fun l A c F h hl => rputG 4 (.inr (.inr (.inl rfl))) l A c page F h hl
  obtain ⟨i, hi, hi2⟩ := fd_at (d := d) (ms := ms) (slot := slot)
  have hdl := pgD_len (o := rsO) (a := r) (p := fdP d ms slot) hX.2.1
  have hE0 : dsE rsO r S d ms slot page = if okF d ms.length slot = true ∧ inM 4 page = true then (if pgE rsO r S (fdP d ms slot) ≠ 0 then pgE rsO r S (fdP d ms slot) else psE (r.L.length : Int) (fdP d ms slot) (putAt (pgD rsO r S (fdP d ms slot)) (fdA d ms slot).toNat page)) else 1 := rfl
  have hS0 : dsS rsO r S d ms slot page = if okF d ms.length slot = true ∧ inM 4 page = true then (if pgE rsO r S (fdP d ms slot) ≠ 0 then S else psS (r.L.length : Int) S (fdP d ms slot) (putAt (pgD rsO r S (fdP d ms slot)) (fdA d ms slot).toNat page)) else S := rfl
  have k4 := fun l F hE A c hr hl => rpSet (F := F) hE hX l A c hr hl (fdP d ms slot) hn2
  have hpl := fun l h => putAt_len (l := l) (page := page) h hi2
  have hpd : ∀ l, putAt l i page = l.take i ++ (beM 4 page ++ l.drop (i + 4)) := fun l => rfl
  have hbl := beM_len 4 page
  have hin : inM 4 page = (decide (0 ≤ page) && decide (page < 4294967296)) := rfl
  have hpm : ∀ l, inM 4 page = true → putM 4 l page = l ++ beM 4 page := fun l h => by unfold putM; rw [h, cond_true]
  have hP0 : fdP d ms slot = if okF d ms.length slot = true then (ms[(slot / 60).toNat]?).getD 0 else 0 := rfl
  have hA0 : fdA d ms slot = if okF d ms.length slot = true then slot % 60 * 4 else 0 := rfl
  have hplace := fun h => place_lt (d := d) (l := ms.length) (slot := slot) h
  rw [hi] at hE0 hS0 hA0
  rw [Int.toNat_natCast] at hE0 hS0
  generalize dsE rsO r S d ms slot page = se at hE0 ⊢
  generalize dsS rsO r S d ms slot page = sS at hS0 ⊢
  generalize okF d ms.length slot = K at k1 hE0 hS0 hP0 hA0 hplace
  generalize inM 4 page = Z at hE0 hS0 hin hpm
  generalize fdP d ms slot = P at k2 k4 hdl hE0 hS0 hP0
  generalize pgE rsO r S P = e at k2 hdl hE0 hS0
  generalize pgD rsO r S P = dd at k2 hdl hE0 hS0
  have k3 := k3 (dd.take i)
  have hpm := hpm (dd.take i)
  generalize putM 4 (dd.take i) page = pm at hpm k3
  generalize beM 4 page = be at hpm hpd hbl
  have hpl := hpl dd
  have hpd := hpd dd
  have k4 := k4 (putAt dd i page)
  generalize putAt dd i page = nd at hE0 hS0 hpl hpd k4
  generalize psE (r.L.length : Int) P nd = pe at k4 hE0
  generalize psS (r.L.length : Int) S P nd = pS at k4 hS0
  (refine fn_walk tab_ok Tryd.func12 rfl rfl rfl rfl ?_; (conv => whnf))
  refine new_step (.cells (mtC d f n k A ms.length c) 24) rfl fun t h0_t => ?_
  have hE_t := Ext.new h0_t (.cells (mtC d f n k A ms.length c) 24)
  have hB_t := Heap.put_same F t (.cells (mtC d f n k A ms.length c) 24)
  generalize F.put t _ = F1 at hE_t hB_t ⊢
  ((conv => whnf); repeat (first | (apply load_at; (conv => lhs; whnf); (with_reducible assumption); rfl; (conv => whnf)) | (apply load_at; (conv => lhs; rw [add_plain, add_plain]); (with_reducible assumption); rfl; (conv => whnf)) | (apply loads_at; (conv => lhs; whnf); (with_reducible assumption); rfl; (conv => whnf)) | (refine ⟨⟨by omega, by omega⟩, ?_⟩; (conv => whnf))))
  refine call_of (k1 F1) ?_
  rintro v F2 ⟨rfl, hE2⟩
  have hE3 := hE_t.trans hE2
  have hB2 := hE2 _ _ hB_t
  have bad : ¬ (K = true ∧ Z = true) → Value.int .i64 1 = .int .i64 se ∧ ∃ X', Moves X F X' F2 ∧ Rp X' xb r q sS := fun h => by
    rw [if_neg h] at hE0 hS0
    subst hE0 hS0
    exact ⟨rfl, X, Moves.ext hE hE3, hX⟩
  refine short [0, 2, 3, 5, 15] [.pointer (some ⟨xb, 0, none⟩), .int .i64 slot, .int .i64 page, .pointer (some ⟨t, 0, none⟩), .bool K] rfl fun ρ => ?_
  cases K with
  | false =>
    ((conv => whnf); repeat (first | (apply load_at; (conv => lhs; whnf); (with_reducible assumption); rfl; (conv => whnf)) | (apply load_at; (conv => lhs; rw [add_plain, add_plain]); (with_reducible assumption); rfl; (conv => whnf)) | (apply loads_at; (conv => lhs; whnf); (with_reducible assumption); rfl; (conv => whnf)) | (refine ⟨⟨by omega, by omega⟩, ?_⟩; (conv => whnf))))
    exact bad (by rintro ⟨h, _⟩; cases h)
  | true =>
  ((conv => whnf); repeat (first | (apply load_at; (conv => lhs; whnf); (with_reducible assumption); rfl; (conv => whnf)) | (apply load_at; (conv => lhs; rw [add_plain, add_plain]); (with_reducible assumption); rfl; (conv => whnf)) | (apply loads_at; (conv => lhs; whnf); (with_reducible assumption); rfl; (conv => whnf)) | (refine ⟨⟨by omega, by omega⟩, ?_⟩; (conv => whnf))))
  cases hd : decide (page < 0) with
  | true =>
    have h := of_decide_eq_true hd
    ((conv => whnf); repeat (first | (apply load_at; (conv => lhs; whnf); (with_reducible assumption); rfl; (conv => whnf)) | (apply load_at; (conv => lhs; rw [add_plain, add_plain]); (with_reducible assumption); rfl; (conv => whnf)) | (apply loads_at; (conv => lhs; whnf); (with_reducible assumption); rfl; (conv => whnf)) | (refine ⟨⟨by omega, by omega⟩, ?_⟩; (conv => whnf))))
    exact bad (by
      rintro ⟨_, h2⟩
      rw [hin, Bool.and_eq_true] at h2
      have := of_decide_eq_true h2.1
      omega)
  | false =>
  have h0 := of_decide_eq_false hd
  ((conv => whnf); repeat (first | (apply load_at; (conv => lhs; whnf); (with_reducible assumption); rfl; (conv => whnf)) | (apply load_at; (conv => lhs; rw [add_plain, add_plain]); (with_reducible assumption); rfl; (conv => whnf)) | (apply loads_at; (conv => lhs; whnf); (with_reducible assumption); rfl; (conv => whnf)) | (refine ⟨⟨by omega, by omega⟩, ?_⟩; (conv => whnf))))
  refine cond_split (fun h => ?_) (fun h => ?_)
  · have h := of_decide_eq_true (show decide (page ≥ 4294967296) = true from h)
    ((conv => whnf); repeat (first | (apply load_at; (conv => lhs; whnf); (with_reducible assumption); rfl; (conv => whnf)) | (apply load_at; (conv => lhs; rw [add_plain, add_plain]); (with_reducible assumption); rfl; (conv => whnf)) | (apply loads_at; (conv => lhs; whnf); (with_reducible assumption); rfl; (conv => whnf)) | (refine ⟨⟨by omega, by omega⟩, ?_⟩; (conv => whnf))))
    exact bad (by
      rintro ⟨_, h2⟩
      rw [hin, Bool.and_eq_true] at h2
      have := of_decide_eq_true h2.2
      omega)
  have h1 := of_decide_eq_false (show decide (page ≥ 4294967296) = false from h)
  clear h hd bad
  obtain rfl : Z = true := by
    rw [hin, Bool.and_eq_true]
    exact ⟨decide_eq_true (by omega), decide_eq_true (by omega)⟩
  rw [if_pos ⟨rfl, rfl⟩] at hE0 hS0
  rw [if_pos rfl] at hP0 hA0
  obtain rfl := hpm rfl
  clear hin hpm
  obtain ⟨g1, g2, g3⟩ := hplace rfl
  obtain ⟨j, hj⟩ : ∃ j : Nat, slot / 60 = (j : Int) := ⟨(slot / 60).toNat, by omega⟩
  rw [hj, Int.toNat_natCast] at hP0
  have hjl : j < ms.length := by omega
  have e1 : IntKind.i64.wrap (slot.tdiv 60) = (j : Int) := by rw [Int.tdiv_eq_ediv_of_nonneg (by omega), hj, wrap_eq (by omega) (by omega)]
  have e2 : IntKind.i64.wrap (slot.tmod 60 * 4) = (i : Int) := by rw [Int.tmod_eq_emod_of_nonneg (by omega), ← hA0, wrap_eq (by omega) (by omega)]
  obtain ⟨ad, rfl⟩ := hr.some (by rw [List.length_map]; omega)
  have hcl := fun G (h : Ext F G) => one_cell (j := j) (v := .int .i64 P) (hr.mono h) (by rw [List.getElem?_map, List.getElem?_eq_getElem hjl, hP0, List.getElem?_eq_getElem hjl]; rfl)
  refine short [0, 2, 3, 5] [.pointer (some ⟨xb, 0, none⟩), .int .i64 slot, .int .i64 page, .pointer (some ⟨t, 0, none⟩)] rfl fun ρ => ?_
  ((conv => whnf); repeat (first | (apply load_at; (conv => lhs; whnf); (with_reducible assumption); rfl; (conv => whnf)) | (apply load_at; (conv => lhs; rw [add_plain, add_plain]); (with_reducible assumption); rfl; (conv => whnf)) | (apply loads_at; (conv => lhs; whnf); (with_reducible assumption); rfl; (conv => whnf)) | (refine ⟨⟨by omega, by omega⟩, ?_⟩; (conv => whnf))))
  refine ⟨by decide, ?_⟩
  ((conv => whnf); repeat (first | (apply load_at; (conv => lhs; whnf); (with_reducible assumption); rfl; (conv => whnf)) | (apply load_at; (conv => lhs; rw [add_plain, add_plain]); (with_reducible assumption); rfl; (conv => whnf)) | (apply loads_at; (conv => lhs; whnf); (with_reducible assumption); rfl; (conv => whnf)) | (refine ⟨⟨by omega, by omega⟩, ?_⟩; (conv => whnf))))
  rw [e1]
  ((conv => whnf); repeat (first | (apply load_at; (conv => lhs; whnf); (with_reducible assumption); rfl; (conv => whnf)) | (apply load_at; (conv => lhs; rw [add_plain, add_plain]); (with_reducible assumption); rfl; (conv => whnf)) | (apply loads_at; (conv => lhs; whnf); (with_reducible assumption); rfl; (conv => whnf)) | (refine ⟨⟨by omega, by omega⟩, ?_⟩; (conv => whnf))))
  refine load_step (hcl F2 hE3) ?_
  ((conv => whnf); repeat (first | (apply load_at; (conv => lhs; whnf); (with_reducible assumption); rfl; (conv => whnf)) | (apply load_at; (conv => lhs; rw [add_plain, add_plain]); (with_reducible assumption); rfl; (conv => whnf)) | (apply loads_at; (conv => lhs; whnf); (with_reducible assumption); rfl; (conv => whnf)) | (refine ⟨⟨by omega, by omega⟩, ?_⟩; (conv => whnf))))
  refine call_of (k2 F2 (hE.trans hE3)) ?_
  rintro v F4 ⟨w, rfl, ⟨B, bc, rfl, hbc, hbr, _⟩, hE4⟩
  refine short [0, 2, 3, 5, 33] [.pointer (some ⟨xb, 0, none⟩), .int .i64 slot, .int .i64 page, .pointer (some ⟨t, 0, none⟩), .tuple #[.slice B dd.length bc, .int .i64 e]] rfl fun ρ => ?_
  ((conv => whnf); repeat (first | (apply load_at; (conv => lhs; whnf); (with_reducible assumption); rfl; (conv => whnf)) | (apply load_at; (conv => lhs; rw [add_plain, add_plain]); (with_reducible assumption); rfl; (conv => whnf)) | (apply loads_at; (conv => lhs; whnf); (with_reducible assumption); rfl; (conv => whnf)) | (refine ⟨⟨by omega, by omega⟩, ?_⟩; (conv => whnf))))
  refine cond_split (fun h => ?_) (fun h => ?_)
  · have he : e ≠ 0 := by
      have h : (e != 0) = true := h
      simpa using h
    rw [if_pos he] at hE0 hS0
    subst hE0 hS0
    ((conv => whnf); repeat (first | (apply load_at; (conv => lhs; whnf); (with_reducible assumption); rfl; (conv => whnf)) | (apply load_at; (conv => lhs; rw [add_plain, add_plain]); (with_reducible assumption); rfl; (conv => whnf)) | (apply loads_at; (conv => lhs; whnf); (with_reducible assumption); rfl; (conv => whnf)) | (refine ⟨⟨by omega, by omega⟩, ?_⟩; (conv => whnf))))
    exact ⟨rfl, X, Moves.ext hE (hE3.trans hE4), hX⟩
  have he : e = 0 := by
    have h : (e != 0) = false := h
    simpa using h
  rw [if_neg (by simpa using he)] at hE0 hS0
  subst hE0 hS0 he
  have hl4 := hdl rfl
  have hpl := hpl hl4
  have hB4 := hE4 _ _ hB2
  have hEF := hE3.trans hE4
  ((conv => whnf); repeat (first | (apply load_at; (conv => lhs; whnf); (with_reducible assumption); rfl; (conv => whnf)) | (apply load_at; (conv => lhs; rw [add_plain, add_plain]); (with_reducible assumption); rfl; (conv => whnf)) | (apply loads_at; (conv => lhs; whnf); (with_reducible assumption); rfl; (conv => whnf)) | (refine ⟨⟨by omega, by omega⟩, ?_⟩; (conv => whnf))))
  refine ⟨by decide, ?_⟩
  ((conv => whnf); repeat (first | (apply load_at; (conv => lhs; whnf); (with_reducible assumption); rfl; (conv => whnf)) | (apply load_at; (conv => lhs; rw [add_plain, add_plain]); (with_reducible assumption); rfl; (conv => whnf)) | (apply loads_at; (conv => lhs; whnf); (with_reducible assumption); rfl; (conv => whnf)) | (refine ⟨⟨by omega, by omega⟩, ?_⟩; (conv => whnf))))
  refine short [0, 2, 3, 5, 9, 11] [.pointer (some ⟨xb, 0, none⟩), .int .i64 slot, .int .i64 page, .pointer (some ⟨t, 0, none⟩), .slice B dd.length bc, .int .i64 (IntKind.i64.wrap (slot.tmod 60 * 4))] rfl fun ρ => ?_
  rw [e2]
  ((conv => whnf); repeat (first | (apply load_at; (conv => lhs; whnf); (with_reducible assumption); rfl; (conv => whnf)) | (apply load_at; (conv => lhs; rw [add_plain, add_plain]); (with_reducible assumption); rfl; (conv => whnf)) | (apply loads_at; (conv => lhs; whnf); (with_reducible assumption); rfl; (conv => whnf)) | (refine ⟨⟨by omega, by omega⟩, ?_⟩; (conv => whnf))))
  have e3 : IntKind.i64.wrap ((i : Int) + 4) = ((i + 4 : Nat) : Int) := by rw [wrap_eq (by omega) (by omega)]; omega
  have hti : (dd.take i).length = i := by rw [List.length_take]; omega
  have hdi : (dd.drop (i + 4)).length = dd.length - (i + 4) := List.length_drop
  have hcut1 : ∀ F', Ext F4 F' → RowAt F' (if bc = 0 then B else B.map (·.add (0 * 1))) (bytesOf (dd.take i)) := fun F' h => row_cut3 0 i bc 0 (hbr.mono h) rfl (by omega) (by omega)
  have hcut2 : ∀ F', Ext F4 F' → RowAt F' (if bc = i + 4 then B else B.map (·.add ((i + 4) * 1))) (bytesOf (dd.drop (i + 4))) := fun F' h => by
    have := row_cut3 (i + 4) (240 - (i + 4)) bc (i + 4) (hbr.mono h) rfl (by omega) (by omega)
    rwa [List.take_of_length_le (by rw [hdi]; omega)] at this
  refine draw_tree_at tab_ok (by kernel_rfl) [] (DT.row [0, 1, 2, 4, 6, 7, 8, 9, 3, 5, 10, 11] .nil) (by kernel_rfl) (fun _ => none) (fun _ _ h => by cases h) ?_
  ((conv => whnf); repeat (first | (apply load_at; (conv => lhs; whnf); (with_reducible assumption); rfl; (conv => whnf)) | (apply load_at; (conv => lhs; rw [add_plain, add_plain]); (with_reducible assumption); rfl; (conv => whnf)) | (apply loads_at; (conv => lhs; whnf); (with_reducible assumption); rfl; (conv => whnf)) | (refine ⟨⟨by omega, by omega⟩, ?_⟩; (conv => whnf))))
  rw [e3]
  ((conv => whnf); repeat (first | (apply load_at; (conv => lhs; whnf); (with_reducible assumption); rfl; (conv => whnf)) | (apply load_at; (conv => lhs; rw [add_plain, add_plain]); (with_reducible assumption); rfl; (conv => whnf)) | (apply loads_at; (conv => lhs; whnf); (with_reducible assumption); rfl; (conv => whnf)) | (refine ⟨⟨by omega, by omega⟩, ?_⟩; (conv => whnf))))
  refine append_mine tab_ok rfl rfl ?hq rfl rfl ⟨_, rfl, fun k h => by cases h⟩ ⟨_, rfl, rfl⟩ (by decide) (Mine.nil F4 F4 _ _ (Ext.refl _)) (m := (dd.take i).length) (ys := bytesOf (dd.take i)) (y := .slice (if bc = 0 then B else B.map (·.add (0 * 1))) (dd.take i).length bc) ⟨by rw [bytes_len]; exact (Nat.mul_one _).symm, .inl ⟨_, _, rfl, hcut1 _ (Ext.refl _)⟩⟩ (hone_bytes _) (by show 2 * (0 + (dd.take i).length) * 1 ≤ _; omega) fun s5 F5 hM5 _ => ?_
  case hq =>
    conv => lhs; whnf
    exact slice_eq rfl hti.symm rfl
  rw [Nat.zero_add, List.nil_append] at hM5
  obtain ⟨A5, c5, rfl, _, hr5⟩ := hM5.own.row
  (conv => whnf)
  refine ⟨(fun _ _ h => by cases h), ?_⟩
  ((conv => whnf); repeat (first | (apply load_at; (conv => lhs; whnf); (with_reducible assumption); rfl; (conv => whnf)) | (apply load_at; (conv => lhs; rw [add_plain, add_plain]); (with_reducible assumption); rfl; (conv => whnf)) | (apply loads_at; (conv => lhs; whnf); (with_reducible assumption); rfl; (conv => whnf)) | (refine ⟨⟨by omega, by omega⟩, ?_⟩; (conv => whnf))))
  refine call_of (k3 A5 c5 F5 hr5 (by omega)) ?_
  rintro v F6 hM6
  have hE6 := hM5.ext.trans hM6.ext
  (conv => whnf)
  refine ⟨(fun _ _ h => by cases h), ?_⟩
  ((conv => whnf); repeat (first | (apply load_at; (conv => lhs; whnf); (with_reducible assumption); rfl; (conv => whnf)) | (apply load_at; (conv => lhs; rw [add_plain, add_plain]); (with_reducible assumption); rfl; (conv => whnf)) | (apply loads_at; (conv => lhs; whnf); (with_reducible assumption); rfl; (conv => whnf)) | (refine ⟨⟨by omega, by omega⟩, ?_⟩; (conv => whnf))))
  refine append_mine tab_ok rfl rfl ?hq2 rfl rfl ⟨_, rfl, fun k h => by cases h⟩ ⟨_, rfl, rfl⟩ (by decide) hM6 (m := (dd.drop (i + 4)).length) (ys := bytesOf (dd.drop (i + 4))) (y := .slice (if bc = i + 4 then B else B.map (·.add ((i + 4) * 1))) (dd.drop (i + 4)).length (bc - (i + 4))) ⟨by rw [bytes_len]; exact (Nat.mul_one _).symm, .inl ⟨_, _, rfl, hcut2 _ hE6⟩⟩ (hone_bytes _) (by show 2 * ((dd.take i ++ be).length + (dd.drop (i + 4)).length) * 1 ≤ _; rw [List.length_append]; omega) fun s9 F9 hM9 _ => ?_
  case hq2 =>
    conv => lhs; whnf
    exact slice_eq rfl hdi.symm rfl
  have hM9 : Mine F5 F9 s9 5 1 nd.length (bytesOf nd) := by
    rw [hpd, ← List.append_assoc, bytes_app, List.length_append]
    exact hM9
  have hE9 := hM5.ext.trans hM9.ext
  obtain ⟨A9, c9, rfl, _, hr9⟩ := hM9.own.row
  have hB9 := hE9 _ _ hB4
  have hEF9 := hEF.trans hE9
  (conv => whnf)
  refine ⟨(fun _ _ h => by cases h), ?_⟩
  ((conv => whnf); repeat (first | (apply load_at; (conv => lhs; whnf); (with_reducible assumption); rfl; (conv => whnf)) | (apply load_at; (conv => lhs; rw [add_plain, add_plain]); (with_reducible assumption); rfl; (conv => whnf)) | (apply loads_at; (conv => lhs; whnf); (with_reducible assumption); rfl; (conv => whnf)) | (refine ⟨⟨by omega, by omega⟩, ?_⟩; (conv => whnf))))
  refine ⟨by decide, ?_⟩
  ((conv => whnf); repeat (first | (apply load_at; (conv => lhs; whnf); (with_reducible assumption); rfl; (conv => whnf)) | (apply load_at; (conv => lhs; rw [add_plain, add_plain]); (with_reducible assumption); rfl; (conv => whnf)) | (apply loads_at; (conv => lhs; whnf); (with_reducible assumption); rfl; (conv => whnf)) | (refine ⟨⟨by omega, by omega⟩, ?_⟩; (conv => whnf))))
  rw [e1]
  ((conv => whnf); repeat (first | (apply load_at; (conv => lhs; whnf); (with_reducible assumption); rfl; (conv => whnf)) | (apply load_at; (conv => lhs; rw [add_plain, add_plain]); (with_reducible assumption); rfl; (conv => whnf)) | (apply loads_at; (conv => lhs; whnf); (with_reducible assumption); rfl; (conv => whnf)) | (refine ⟨⟨by omega, by omega⟩, ?_⟩; (conv => whnf))))
  refine load_step (hcl F9 hEF9) ?_
  ((conv => whnf); repeat (first | (apply load_at; (conv => lhs; whnf); (with_reducible assumption); rfl; (conv => whnf)) | (apply load_at; (conv => lhs; rw [add_plain, add_plain]); (with_reducible assumption); rfl; (conv => whnf)) | (apply loads_at; (conv => lhs; whnf); (with_reducible assumption); rfl; (conv => whnf)) | (refine ⟨⟨by omega, by omega⟩, ?_⟩; (conv => whnf))))
  refine call_of (k4 F9 (hE.trans hEF9) A9 c9 hr9 (by omega)) ?_
  rintro v F10 ⟨rfl, X', hM10, hX10⟩
  ((conv => whnf); repeat (first | (apply load_at; (conv => lhs; whnf); (with_reducible assumption); rfl; (conv => whnf)) | (apply load_at; (conv => lhs; rw [add_plain, add_plain]); (with_reducible assumption); rfl; (conv => whnf)) | (apply loads_at; (conv => lhs; whnf); (with_reducible assumption); rfl; (conv => whnf)) | (refine ⟨⟨by omega, by omega⟩, ?_⟩; (conv => whnf))))
  exact ⟨rfl, X', (Moves.ext hE hEF9).trans hM10, hX10⟩
end Go.Proofs.YtmpiggcooboenaaDoor.Al
/- Directories: the law's words: fresh, awake. -/
namespace Go.Proofs.YtmpiggcooboenaaDoor.Al
open Go Go.Al Go.Proofs Go.RowKit
set_option maxHeartbeats 8000000
set_option maxRecDepth 100000
set_option linter.unusedVariables false
set_option linter.unusedSimpArgs false
theorem fresh11 (F : Heap) (hN : NibAt F) : FnK Tryd.prog 9 #[] F (fun v F' => ∃ pb xb D X s r, v = .tuple #[.pointer (some ⟨pb, 0, none⟩), .pointer (some ⟨xb, 0, none⟩)] ∧ Ext F F' ∧ Duo F' D X ∧ Apart D F ∧ Apart X F ∧ Pg D pb s 1 [] ∧ Rp X xb r 1 [] ∧ Sim s r ∧ Fresh 61 s) := by
  have hn : (3 : Int) ≤ ((61 : Nat) : Int) ∧ ((61 : Nat) : Int) ≤ 65536 := by decide
  obtain ⟨r1, r2, x1, x2, S2, hdone⟩ := start_n hn
  obtain ⟨f1, fm⟩ := fmt_fresh hn
  obtain ⟨f2, ff⟩ := frs_fresh hn
  have kF := fun D F b hE hD hN => redoFormat (D := D) (F := F) (b := b) (s := newS ((61 : Nat) : Int)) hE hD hN (by show (0 : Int) + 1 < _; omega)
  have kO := fun D F b hE hD hN => redoOpen (D := D) (F := F) (b := b) (s := fmtS ((61 : Nat) : Int)) hE hD hN (by rw [fm.writes]; decide)
  have e1 : runW dsO (newS ((61 : Nat) : Int)) [(0, noteB 0 1)] = (fmtS ((61 : Nat) : Int), 0) := Prod.ext rfl f1
  rw [e1] at kF
  have kG := fun D F b hE hD => rformat (D := D) (F := F) (b := b) (r := newR 61) hE hD (by show (0 : Int) + 1 < _; omega)
  rw [x1] at kG
  have kP := fun D F b hE hD => rgOpen (D := D) (F := F) (b := b) (r := r1) hE hD hdone
  rw [x2] at kP
  have e2 : openS dsO (fmtS ((61 : Nat) : Int)) = (frsS ((61 : Nat) : Int), 0, some 1) := Prod.ext rfl f2
  rw [e2] at kO
  dsimp only at kF kO kG kP
  clear fm f1 f2 e1 e2 x1 x2 hdone
  have h0 : pagesN (frsS ((61 : Nat) : Int)).size ≠ 0 := by rw [ff.size]; decide
  generalize fmtS ((61 : Nat) : Int) = sF at kF kO
  generalize frsS ((61 : Nat) : Int) = s at kO S2 ff h0
  (refine fn_walk tab_ok Tryd.func9 rfl rfl rfl rfl ?_; (conv => whnf))
  refine call_of (new_n hn F) ?_
  rintro v F1 ⟨b, D1, rfl, M1, K1⟩
  have E1 := fresh_ext M1
  refine short [0, 1, 13] [.pointer none, .pointer none, .tuple #[.pointer (some ⟨b, 0, none⟩), .int .i64 0]] rfl fun ρ => ?_
  ((conv => whnf); repeat (first | (apply load_at; (conv => lhs; whnf); (with_reducible assumption); rfl; (conv => whnf)) | (apply load_at; (conv => lhs; rw [add_plain, add_plain]); (with_reducible assumption); rfl; (conv => whnf)) | (apply loads_at; (conv => lhs; whnf); (with_reducible assumption); rfl; (conv => whnf)) | (refine ⟨⟨by omega, by omega⟩, ?_⟩; (conv => whnf))))
  refine call_of (kF D1 F1 b M1.inn K1 (hN.mono E1)) ?_
  rintro v F2 ⟨rfl, D2, M2, K2⟩
  have aD1 := apart_new M1
  have E2 := M2.keep E1 aD1
  have aD2 := M2.apart E1 aD1
  refine short [0, 1, 2, 17] [.pointer none, .pointer none, .pointer (some ⟨b, 0, none⟩), .int .i64 0] rfl fun ρ => ?_
  ((conv => whnf); repeat (first | (apply load_at; (conv => lhs; whnf); (with_reducible assumption); rfl; (conv => whnf)) | (apply load_at; (conv => lhs; rw [add_plain, add_plain]); (with_reducible assumption); rfl; (conv => whnf)) | (apply loads_at; (conv => lhs; whnf); (with_reducible assumption); rfl; (conv => whnf)) | (refine ⟨⟨by omega, by omega⟩, ?_⟩; (conv => whnf))))
  refine call_of (kO D2 F2 b M2.inn K2 (hN.mono E2)) ?_
  rintro v F3 ⟨w, D3, rfl, M3, K3, lb, rfl, g1, g2, g3⟩
  obtain ⟨M3, L3⟩ := lgv_take M3 K3 g1 g2 g3 (by decide)
  have E3 := M3.keep E2 aD2
  have aD3 := M3.apart E2 aD2
  generalize D3.put lb (lgO b 1) = D3 at M3 L3 aD3
  refine short [0, 1, 20] [.pointer none, .pointer none, .tuple #[.pointer (some ⟨lb, 0, none⟩), .int .i64 0]] rfl fun ρ => ?_
  ((conv => whnf); repeat (first | (apply load_at; (conv => lhs; whnf); (with_reducible assumption); rfl; (conv => whnf)) | (apply load_at; (conv => lhs; rw [add_plain, add_plain]); (with_reducible assumption); rfl; (conv => whnf)) | (apply loads_at; (conv => lhs; whnf); (with_reducible assumption); rfl; (conv => whnf)) | (refine ⟨⟨by omega, by omega⟩, ?_⟩; (conv => whnf))))
  refine call_of (pgNew M3.inn L3 h0) ?_
  rintro v F4 ⟨pb, D4, rfl, M4, P4⟩
  have E4 := M4.keep E3 aD3
  have aD4 := M4.apart E3 aD3
  refine short [0, 1, 25] [.pointer none, .pointer none, .tuple #[.pointer (some ⟨pb, 0, none⟩), .int .i64 0]] rfl fun ρ => ?_
  ((conv => whnf); repeat (first | (apply load_at; (conv => lhs; whnf); (with_reducible assumption); rfl; (conv => whnf)) | (apply load_at; (conv => lhs; rw [add_plain, add_plain]); (with_reducible assumption); rfl; (conv => whnf)) | (apply loads_at; (conv => lhs; whnf); (with_reducible assumption); rfl; (conv => whnf)) | (refine ⟨⟨by omega, by omega⟩, ?_⟩; (conv => whnf))))
  refine call_of (rnew ((61 : Nat) : Int) F4) ?_
  rintro v F5 h
  rcases h with ⟨h1, _⟩ | ⟨_, _, xb, X5, rfl, M5, K5⟩
  · omega
  rw [Int.toNat_natCast] at K5
  have E45 := fresh_ext M5
  have aX5 := apart_new M5
  have H5 : Duo F5 D4 X5 := ⟨M4.inn.trans E45, M5.inn, (aX5.symm.mono M4.inn)⟩
  have aX5F : Apart X5 F := fun c hc => E4.none (aX5 c hc)
  have E5 := E4.trans E45
  refine short [0, 1, 6, 29] [.pointer none, .pointer none, .pointer (some ⟨pb, 0, none⟩), .tuple #[.pointer (some ⟨xb, 0, none⟩), .int .i64 0]] rfl fun ρ => ?_
  ((conv => whnf); repeat (first | (apply load_at; (conv => lhs; whnf); (with_reducible assumption); rfl; (conv => whnf)) | (apply load_at; (conv => lhs; rw [add_plain, add_plain]); (with_reducible assumption); rfl; (conv => whnf)) | (apply loads_at; (conv => lhs; whnf); (with_reducible assumption); rfl; (conv => whnf)) | (refine ⟨⟨by omega, by omega⟩, ?_⟩; (conv => whnf))))
  refine call_of (kG X5 F5 xb H5.x K5) ?_
  rintro v F6 ⟨rfl, X6, M6, K6⟩
  obtain ⟨H6, T6⟩ := H5.onX M6
  refine short [0, 1, 6, 8, 33] [.pointer none, .pointer none, .pointer (some ⟨pb, 0, none⟩), .pointer (some ⟨xb, 0, none⟩), .int .i64 0] rfl fun ρ => ?_
  ((conv => whnf); repeat (first | (apply load_at; (conv => lhs; whnf); (with_reducible assumption); rfl; (conv => whnf)) | (apply load_at; (conv => lhs; rw [add_plain, add_plain]); (with_reducible assumption); rfl; (conv => whnf)) | (apply loads_at; (conv => lhs; whnf); (with_reducible assumption); rfl; (conv => whnf)) | (refine ⟨⟨by omega, by omega⟩, ?_⟩; (conv => whnf))))
  refine call_of (kP X6 F6 xb H6.x K6) ?_
  rintro v F7 ⟨w, X7, rfl, M7, K7, xl, rfl, g1, g2, g3⟩
  obtain ⟨M7, L7⟩ := rgv_take M7 K7 g1 g2 g3 (by decide)
  obtain ⟨H7, T7⟩ := H6.onX M7
  generalize X7.put xl (rgO xb 1) = X7 at M7 L7 H7 T7
  obtain ⟨E7, aD7, aX7⟩ := (T6.trans T7) F E5 aD4 aX5F
  refine short [0, 1, 6, 36] [.pointer none, .pointer none, .pointer (some ⟨pb, 0, none⟩), .tuple #[.pointer (some ⟨xl, 0, none⟩), .int .i64 0]] rfl fun ρ => ?_
  ((conv => whnf); repeat (first | (apply load_at; (conv => lhs; whnf); (with_reducible assumption); rfl; (conv => whnf)) | (apply load_at; (conv => lhs; rw [add_plain, add_plain]); (with_reducible assumption); rfl; (conv => whnf)) | (apply loads_at; (conv => lhs; whnf); (with_reducible assumption); rfl; (conv => whnf)) | (refine ⟨⟨by omega, by omega⟩, ?_⟩; (conv => whnf))))
  refine new_step (xpO xl (.slice none 0 0)) rfl fun xp h8 => ?_
  obtain ⟨m1, m2⟩ := rp_new H7.x L7 h8
  obtain ⟨H8, T8⟩ := H7.onX m1
  obtain ⟨E8, aD8, aX8⟩ := T8 F E7 aD7 aX7
  ((conv => whnf); repeat (first | (apply load_at; (conv => lhs; whnf); (with_reducible assumption); rfl; (conv => whnf)) | (apply load_at; (conv => lhs; rw [add_plain, add_plain]); (with_reducible assumption); rfl; (conv => whnf)) | (apply loads_at; (conv => lhs; whnf); (with_reducible assumption); rfl; (conv => whnf)) | (refine ⟨⟨by omega, by omega⟩, ?_⟩; (conv => whnf))))
  exact ⟨pb, xp, D4, _, s, r2, rfl, E8, H8, aD8, aX8, P4, m2, S2, ff⟩
end Go.Proofs.YtmpiggcooboenaaDoor.Al
/- Directories: what was set is got, in plain Lean; the laws' awake. -/
namespace Go.Proofs.YtmpiggcooboenaaDoor.Al
open Go Go.Al Go.Proofs Go.RowKit
set_option maxHeartbeats 8000000
set_option maxRecDepth 100000
set_option linter.unusedVariables false
set_option linter.unusedSimpArgs false
theorem get_same {l : List UInt8} {i : Nat} {page : Int} (hi : i + 4 ≤ l.length) (hp : inM 4 page = true) : getN (putAt l i page) i 4 = page := by
  have hl : (putAt l i page).length = l.length := by
    unfold putAt
    rw [List.length_append, List.length_append, List.length_take, List.length_drop, beM_len]; omega
  unfold getN
  rw [if_pos (by omega)]
  unfold putAt
  rw [List.drop_left' (by rw [List.length_take]; omega), List.take_left' (beM_len 4 page)]
  have h : (decide (0 ≤ page) && decide (page < 4294967296)) = true := hp
  rw [Bool.and_eq_true, decide_eq_true_iff, decide_eq_true_iff] at h
  exact getV_back (.inr (.inr (.inl rfl))) hp (by omega) (by omega)
theorem get_other {l : List UInt8} {i j : Nat} {page : Int} (hi : i + 4 ≤ l.length) (h : i + 4 ≤ j ∨ j + 4 ≤ i) : getN (putAt l i page) j 4 = getN l j 4 := by
  have hl : (putAt l i page).length = l.length := by
    unfold putAt
    rw [List.length_append, List.length_append, List.length_take, List.length_drop, beM_len]; omega
  have key : ((putAt l i page).drop j).take 4 = (l.drop j).take 4 := by
    apply List.ext_getElem?
    intro k
    rw [List.getElem?_take, List.getElem?_take]
    split
    · next hk =>
      rw [List.getElem?_drop, List.getElem?_drop]
      unfold putAt
      by_cases c : j + k < i
      · rw [List.getElem?_append_left (by rw [List.length_take]; omega), List.getElem?_take, if_pos c]
      · rw [List.getElem?_append_right (by rw [List.length_take]; omega), List.getElem?_append_right (by rw [List.length_take, beM_len]; omega), List.getElem?_drop, List.length_take, beM_len]
        congr 1
        omega
    · rfl
  unfold getN
  rw [hl, key]
theorem pgD_ins {α : Type} (o : DOps α) (a : α) (S : PgL) (p : Int) (d : List UInt8) (k : Int) : pgD o a (insS S p d) k = if k = p then d else pgD o a S k := by
  by_cases e : k = p
  · rw [if_pos e]; unfold pgD; rw [lk_ins, if_pos e]
  · rw [if_neg e]; unfold pgD; rw [lk_ins, if_neg e]
theorem pgE_up {s : DS} (hd : s.down = false) {S : PgL} {p : Int} (hp : isPg s.size p = true) : pgE dsO s S p = 0 := by
  unfold pgE
  cases lkS S p with
  | none => exact (load_c hd hp).1
  | some d => rfl
theorem psS_yes {n : Int} {S : PgL} {p : Int} {d : List UInt8} (h1 : isPg n p = true) (h2 : d.length = 240) : psE n p d = 0 ∧ psS n S p d = insS S p d := by
  unfold psE psS
  rw [if_pos ⟨h1, h2⟩, if_pos ⟨h1, h2⟩]
  exact ⟨rfl, rfl⟩
/-- A slot that may be set. -/
theorem set_get {s : DS} (hd : s.down = false) {S : PgL} (hS : OkS s.size S) {d : Int} {ms : List Int} {slot page : Int} (hk : okF d ms.length slot = true) (hp : inM 4 page = true) (hg : isPg s.size (fdP d ms slot) = true) :
    dsE dsO s S d ms slot page = 0 ∧ dgE dsO s (dsS dsO s S d ms slot page) d ms slot = 0 ∧ dgN dsO s (dsS dsO s S d ms slot page) d ms slot = page ∧ OkS s.size (dsS dsO s S d ms slot page) ∧
    ∀ slot2, okF d ms.length slot2 = true → isPg s.size (fdP d ms slot2) = true → (fdP d ms slot2 ≠ fdP d ms slot ∨ (fdA d ms slot2 ≠ fdA d ms slot ∧ fdA d ms slot2 % 4 = 0 ∧ fdA d ms slot % 4 = 0)) → dgN dsO s (dsS dsO s S d ms slot page) d ms slot2 = dgN dsO s S d ms slot2 := by
  have h0 := pgE_up hd (S := S) hg
  have hl := pgD_len (o := dsO) (a := s) hS h0
  obtain ⟨i, hi, hi2⟩ := fd_at (d := d) (ms := ms) (slot := slot)
  have hn := putAt_len (page := page) hl hi2
  obtain ⟨e1, e2⟩ := psS_yes (S := S) hg hn
  have eS : dsS dsO s S d ms slot page = insS S (fdP d ms slot) (putAt (pgD dsO s S (fdP d ms slot)) i page) := by
    unfold dsS
    rw [if_pos ⟨hk, hp⟩, if_neg (by rw [h0]; decide), hi, Int.toNat_natCast]
    exact e2
  have eE : dsE dsO s S d ms slot page = 0 := by
    unfold dsE
    rw [if_pos ⟨hk, hp⟩, if_neg (by rw [h0]; decide), hi, Int.toNat_natCast]
    exact e1
  have hO : OkS s.size (insS S (fdP d ms slot) (putAt (pgD dsO s S (fdP d ms slot)) i page)) := by
    rw [← e2]
    exact ps_ok hS _ _
  rw [eS]
  have hlk := pgD_ins dsO s S (fdP d ms slot) (putAt (pgD dsO s S (fdP d ms slot)) i page)
  generalize hnd : putAt (pgD dsO s S (fdP d ms slot)) i page = nd at *
  refine ⟨eE, ?_, ?_, hO, fun slot2 hk2 hg2 hne => ?_⟩
  · unfold dgE
    rw [if_pos hk]
    exact pgE_up hd hg
  · unfold dgN
    rw [if_pos hk, if_neg (by rw [pgE_up hd hg]; decide), hlk, if_pos rfl, hi, Int.toNat_natCast, ← hnd]
    exact get_same (by omega) hp
  · unfold dgN
    rw [if_pos hk2, if_pos hk2, if_neg (by rw [pgE_up hd hg2]; decide), if_neg (by rw [pgE_up hd hg2]; decide), hlk]
    by_cases e : fdP d ms slot2 = fdP d ms slot
    · obtain ⟨a1, a2, a3⟩ := hne.resolve_left (fun h => h e)
      obtain ⟨j, hj, hj2⟩ := fd_at (d := d) (ms := ms) (slot := slot2)
      rw [if_pos e, hj, Int.toNat_natCast, e, ← hnd]
      exact get_other (by omega) (by omega)
    · rw [if_neg e]
theorem mt_one (d f n k : Int) (A : Option Addr) (l c : Nat) : ∀ v ∈ (mtC d f n k A l c).toList, v.oneCell' = true := by simp [mtC, Value.oneCell']
theorem per_ (F : Heap) : FnK Tryd.prog 46 #[] F (fun v F' => v = .int .i64 60 ∧ F' = F) := by
  (refine fn_walk tab_ok Tryd.func46 rfl rfl rfl rfl ?_; (conv => whnf))
  exact ⟨rfl, rfl⟩
theorem awake11 (F : Heap) (hN : NibAt F) : FnK Tryd.prog 10 #[] F (fun v F' => v = .bool true ∧ Ext F F') := by
  have kf := fresh11 F hN
  have kd6 := need_ 6
  have kd10 := need_ 10
  rw [show needI 6 = 2 by decide] at kd6
  rw [show needI 10 = 18 by decide] at kd10
  have kset := fun D F pb s q hE hD hN A c hr => dirSet (D := D) (F := F) (pb := pb) (s := s) (q := q) (S := []) hE hD hN 6 0 0 0 A [3, 5] c 61 9 hr (by decide)
  have kget := fun D F pb s q hE hD hN A c hr => dirGet (D := D) (F := F) (pb := pb) (s := s) (q := q) (S := dsS dsO s [] 6 [3, 5] 61 9) hE hD hN 6 0 0 0 A [3, 5] c 61 hr (by decide)
  have hsg := fun s (hf : Fresh 61 s) => set_get (s := s) hf.up.down (S := []) (fun x h => by cases h) (d := 6) (ms := [3, 5]) (slot := 61) (page := 9) (by decide) (by decide) (by rw [hf.size]; decide)
  (refine fn_walk tab_ok Tryd.func10 rfl rfl rfl rfl ?_; (conv => whnf))
  refine call_of kf ?_
  rintro v F2 ⟨pb, xb, D, X, s, r, rfl, E2, H2, aD, aX, P2, R2, S2, ff⟩
  have hsg := hsg s ff
  have kset := fun F hE hN A c hr => kset D F pb s 1 hE P2 hN A c hr
  have kget := fun D F => kget D F pb s 1
  obtain ⟨q1, q2, q3, _, _⟩ := hsg
  rw [q1] at kset
  rw [q2, q3] at kget
  generalize dsS dsO s [] 6 [3, 5] 61 9 = S1 at kset kget
  clear q1 q2 q3
  refine short [0, 7] [.bool false, .tuple #[.pointer (some ⟨pb, 0, none⟩), .pointer (some ⟨xb, 0, none⟩)]] rfl fun ρ => ?_
  ((conv => whnf); repeat (first | (apply load_at; (conv => lhs; whnf); (with_reducible assumption); rfl; (conv => whnf)) | (apply load_at; (conv => lhs; rw [add_plain, add_plain]); (with_reducible assumption); rfl; (conv => whnf)) | (apply loads_at; (conv => lhs; whnf); (with_reducible assumption); rfl; (conv => whnf)) | (refine ⟨⟨by omega, by omega⟩, ?_⟩; (conv => whnf))))
  refine new_step (.cells #[.int .i64 3, .int .i64 5] 3) rfl fun g h0_g => ?_
  have hE_g := Ext.new h0_g (.cells #[.int .i64 3, .int .i64 5] 3)
  have hB_g := Heap.put_same F2 g (.cells #[.int .i64 3, .int .i64 5] 3)
  generalize F2.put g _ = F3 at hE_g hB_g ⊢
  have hrow := row_blk hB_g
  rw [List.toList_toArray] at hrow
  ((conv => whnf); repeat (first | (apply load_at; (conv => lhs; whnf); (with_reducible assumption); rfl; (conv => whnf)) | (apply load_at; (conv => lhs; rw [add_plain, add_plain]); (with_reducible assumption); rfl; (conv => whnf)) | (apply loads_at; (conv => lhs; whnf); (with_reducible assumption); rfl; (conv => whnf)) | (refine ⟨⟨by omega, by omega⟩, ?_⟩; (conv => whnf))))
  refine new_step (.cells (mtC 0 0 0 0 none 0 0) 24) rfl fun u h0_u => ?_
  have hU_u := Heap.put_same F3 u (.cells (mtC 0 0 0 0 none 0 0) 24)
  have hX_u := fun o => (ext_put_put h0_u (o := .cells (mtC 0 0 0 0 none 0 0) 24) (o' := o))
  generalize F3.put u (.cells (mtC 0 0 0 0 none 0 0) 24) = F4 at hU_u hX_u ⊢
  (conv => whnf)
  refine store_step u 0 _ (mtC 6 0 0 0 (some ⟨g, 0, none⟩) 2 2) rfl hU_u rfl rfl (.inl (Nat.le_refl 0)) (mt_one 6 0 0 0 (some ⟨g, 0, none⟩) 2 2) ?_
  have hB_u := Heap.put_same F4 u (.cells (mtC 6 0 0 0 (some ⟨g, 0, none⟩) 2 2) 24)
  have hE_u := hX_u (.cells (mtC 6 0 0 0 (some ⟨g, 0, none⟩) 2 2) 24)
  clear hU_u hX_u
  generalize F4.put u _ = F4 at hB_u hE_u ⊢
  have hE4 := hE_g.trans hE_u
  have E4 := E2.trans hE4
  replace hrow := hrow.mono hE_u
  have k5 := kset F4 (H2.d.trans hE4) (hN.mono E4) (some ⟨g, 0, none⟩) 2 hrow
  ((conv => whnf); repeat (first | (apply load_at; (conv => lhs; whnf); (with_reducible assumption); rfl; (conv => whnf)) | (apply load_at; (conv => lhs; rw [add_plain, add_plain]); (with_reducible assumption); rfl; (conv => whnf)) | (apply loads_at; (conv => lhs; whnf); (with_reducible assumption); rfl; (conv => whnf)) | (refine ⟨⟨by omega, by omega⟩, ?_⟩; (conv => whnf))))
  refine call_of k5 ?_
  rintro v F5 ⟨rfl, D5, M5, P5⟩
  have hU5 := M5.out _ _ hB_u ((H2.d.trans hE_g).none h0_u)
  have hG5 := M5.out _ _ (hE_u _ _ hB_g) (H2.d.none h0_g)
  have hrow5 := row_blk hG5
  rw [List.toList_toArray] at hrow5
  have E5 := M5.keep E4 aD
  refine short [0, 1, 3, 14, 17] [.bool false, .pointer (some ⟨pb, 0, none⟩), .pointer (some ⟨u, 0, none⟩), .bool false, .int .i64 0] rfl fun ρ => ?_
  ((conv => whnf); repeat (first | (apply load_at; (conv => lhs; whnf); (with_reducible assumption); rfl; (conv => whnf)) | (apply load_at; (conv => lhs; rw [add_plain, add_plain]); (with_reducible assumption); rfl; (conv => whnf)) | (apply loads_at; (conv => lhs; whnf); (with_reducible assumption); rfl; (conv => whnf)) | (refine ⟨⟨by omega, by omega⟩, ?_⟩; (conv => whnf))))
  refine call_of (kget D5 F5 M5.inn P5 (hN.mono E5) (some ⟨g, 0, none⟩) 2 hrow5) ?_
  rintro v F6 ⟨rfl, hE6⟩
  have E6 := E5.trans hE6
  refine short [0, 23] [.bool false, .tuple #[.int .i64 9, .int .i64 0]] rfl fun ρ => ?_
  ((conv => whnf); repeat (first | (apply load_at; (conv => lhs; whnf); (with_reducible assumption); rfl; (conv => whnf)) | (apply load_at; (conv => lhs; rw [add_plain, add_plain]); (with_reducible assumption); rfl; (conv => whnf)) | (apply loads_at; (conv => lhs; whnf); (with_reducible assumption); rfl; (conv => whnf)) | (refine ⟨⟨by omega, by omega⟩, ?_⟩; (conv => whnf))))
  refine call_of (kd6 F6) ?_
  rintro v F6 ⟨rfl, rfl⟩
  refine short [32, 33] [.bool true, .int .i64 2] rfl fun ρ => ?_
  ((conv => whnf); repeat (first | (apply load_at; (conv => lhs; whnf); (with_reducible assumption); rfl; (conv => whnf)) | (apply load_at; (conv => lhs; rw [add_plain, add_plain]); (with_reducible assumption); rfl; (conv => whnf)) | (apply loads_at; (conv => lhs; whnf); (with_reducible assumption); rfl; (conv => whnf)) | (refine ⟨⟨by omega, by omega⟩, ?_⟩; (conv => whnf))))
  refine call_of (per_ F6) ?_
  rintro v F6 ⟨rfl, rfl⟩
  refine short [36, 37] [.bool true, .int .i64 60] rfl fun ρ => ?_
  ((conv => whnf); repeat (first | (apply load_at; (conv => lhs; whnf); (with_reducible assumption); rfl; (conv => whnf)) | (apply load_at; (conv => lhs; rw [add_plain, add_plain]); (with_reducible assumption); rfl; (conv => whnf)) | (apply loads_at; (conv => lhs; whnf); (with_reducible assumption); rfl; (conv => whnf)) | (refine ⟨⟨by omega, by omega⟩, ?_⟩; (conv => whnf))))
  refine call_of (kd10 F6) ?_
  rintro v F6 ⟨rfl, rfl⟩
  refine short [40, 41] [.bool true, .int .i64 18] rfl fun ρ => ?_
  ((conv => whnf); repeat (first | (apply load_at; (conv => lhs; whnf); (with_reducible assumption); rfl; (conv => whnf)) | (apply load_at; (conv => lhs; rw [add_plain, add_plain]); (with_reducible assumption); rfl; (conv => whnf)) | (apply loads_at; (conv => lhs; whnf); (with_reducible assumption); rfl; (conv => whnf)) | (refine ⟨⟨by omega, by omega⟩, ?_⟩; (conv => whnf))))
  exact ⟨rfl, E6⟩
end Go.Proofs.YtmpiggcooboenaaDoor.Al

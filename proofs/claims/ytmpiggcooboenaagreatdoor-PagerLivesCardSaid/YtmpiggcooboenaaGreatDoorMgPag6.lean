/- Texts of this claim, joined: PagD PagS PagE PagF PagG RedY DirE PagH PagI PagJ. -/
import Derived.Test.YtmpiggcooboenaaGreatDoorMgPag1
import Derived.Test.YtmpiggcooboenaaGreatDoorMgPag2
import Derived.Test.YtmpiggcooboenaaGreatDoorMgPag3
import Derived.Test.YtmpiggcooboenaaGreatDoorMgPag4
import Derived.Test.YtmpiggcooboenaaGreatDoorMgPag5
import Derived.Shelf.Sort.Plain
import Derived.Sort.OwnSortedInts
/- The reference's pagers: Get and Set, over what is known of memory. -/
namespace Go.Proofs.YtmpiggcooboenaaGreatDoor.Al
open Go Go.Al Go.Proofs Go.RowKit
set_option maxHeartbeats 8000000
set_option maxRecDepth 100000
set_option linter.unusedVariables false
set_option linter.unusedSimpArgs false
theorem Rg.pages {E F : Heap} {lb b : Nat} {r : RS} {q : Int} (hE : Ext E F) (hL : Rg E lb b r q) : FnK Tryz.prog 22 #[.pointer (some ⟨lb, 0, none⟩)] F (fun v F' => v = .int .i64 (pagesN (r.L.length : Int)) ∧ F' = F) := by
  obtain ⟨D0, h1, h2, h3⟩ := hL.disk
  exact rgPages (h2.trans hE) h1 (hE _ _ h3)
theorem Rg.load {E F : Heap} {lb b : Nat} {r : RS} {q : Int} (hE : Ext E F) (hL : Rg E lb b r q) (p : Int) : FnK Tryz.prog 37 #[.pointer (some ⟨lb, 0, none⟩), .int .i64 p] F (fun v F' => ∃ u, v = .tuple #[u, .int .i64 (loadE rsO r p)] ∧ NewRow F F' u (loadL rsO r p) ∧ Ext F F') := by
  obtain ⟨D0, h1, h2, h3⟩ := hL.disk
  exact rgLoad (h2.trans hE) h1 (hE _ _ h3) p
theorem rpGet {X F : Heap} {xb : Nat} {r : RS} {q : Int} {S : PgL} (hE : Ext X F) (hX : Rp X xb r q S) (p : Int) :
    FnK Tryz.prog 18 #[.pointer (some ⟨xb, 0, none⟩), .int .i64 p] F (fun v F' => ∃ u, v = .tuple #[u, .int .i64 (pgE rsO r S p)] ∧ NewRow F F' u (pgD rsO r S p) ∧ Ext F F') := by
  obtain ⟨hs, ho, hn, lb, b, T, L, ps, G, hP⟩ := hX
  have hc := hE _ _ hP.cell
  have k1 := Rg.load (hP.baseL.trans hE) hP.log p
  obtain ⟨A, c, rfl, hcc, hr⟩ := hP.own.row
  replace hr := hr.mono hE
  have hbase := hP.base.trans hE
  have hok := hP.ok
  have hmap := hP.map
  clear hP
  have hat : ∀ (i : Nat) x, ps[i]? = some x → S[i]? = some (x.at_, x.l) := fun i x hx => by
    rw [← hmap, List.getElem?_map, hx]; rfl
  have hln : S.length = ps.length := by rw [← hmap, List.length_map]
  have yes : ∀ (i : Nat) x, ps[i]? = some x → x.at_ = p → pgE rsO r S p = 0 ∧ pgD rsO r S p = x.l := fun i x hx e => by
    have := lk_at S hs i _ (hat i x hx)
    rw [show ((x.at_, x.l) : Int × List UInt8).1 = p from e] at this
    unfold pgE pgD
    rw [this]
    exact ⟨rfl, rfl⟩
  have no : (∀ (i : Nat) x, ps[i]? = some x → x.at_ ≠ p) → pgE rsO r S p = loadE rsO r p ∧ pgD rsO r S p = loadL rsO r p := fun h => by
    have : lkS S p = none := lk_none fun j y hy => by
      rw [← hmap, List.getElem?_map] at hy
      obtain ⟨x, h1, rfl⟩ := Option.map_eq_some_iff.1 hy
      exact h j x h1
    unfold pgE pgD
    rw [this]
    exact ⟨rfl, rfl⟩
  generalize pgE rsO r S p = pe at yes no ⊢
  generalize pgD rsO r S p = pd at yes no ⊢
  generalize loadE rsO r p = le at k1 no
  generalize loadL rsO r p = ll at k1 no
  (refine fn_walk tab_ok Tryz.func18 rfl rfl rfl rfl ?_; (conv => whnf))
  refine loop_slots [0, 1, 6] (fun k vs F' => ∃ j : Nat, j + k = ps.length ∧ vs = [.pointer (some ⟨xb, 0, none⟩), .int .i64 p, .int .i64 (j : Int)] ∧ F' = F ∧ ∀ (i : Nat) x, i < j → ps[i]? = some x → x.at_ ≠ p) ps.length ⟨0, by omega, rfl, rfl, fun i x h => by omega⟩ ?_
  rintro k vs F2 ρ ⟨j, hjk, rfl, rfl, hlt⟩
  ((conv => whnf); repeat (first | (apply load_at; (conv => lhs; whnf); (with_reducible assumption); rfl; (conv => whnf)) | (apply load_at; (conv => lhs; rw [add_plain, add_plain]); (with_reducible assumption); rfl; (conv => whnf)) | (apply loads_at; (conv => lhs; whnf); (with_reducible assumption); rfl; (conv => whnf)) | (refine ⟨⟨by omega, by omega⟩, ?_⟩; (conv => whnf))))
  refine cond_split (fun h => ?_) (fun h => ?_)
  · have hj : j < ps.length := by
      have h : decide ((j : Int) < (ps.length : Int)) = true := h
      have := of_decide_eq_true h
      omega
    clear h
    obtain ⟨ad, rfl⟩ := hr.some (by rw [rowS_len pcC_len]; omega)
    obtain ⟨x, hx⟩ : ∃ x, ps[j]? = some x := ⟨_, List.getElem?_eq_getElem hj⟩
    have c0 := rowS_cell pcC_len hr hx (q := 0) rfl
    have c1 := rowS_cell pcC_len hr hx (q := 1) rfl
    have hxo := hok x (List.mem_of_getElem? hx)
    obtain ⟨pat, pl, pA, pc⟩ := x
    dsimp only at c0 c1
    ((conv => whnf); repeat (first | (apply load_at; (conv => lhs; whnf); (with_reducible assumption); rfl; (conv => whnf)) | (apply load_at; (conv => lhs; rw [add_plain, add_plain]); (with_reducible assumption); rfl; (conv => whnf)) | (apply loads_at; (conv => lhs; whnf); (with_reducible assumption); rfl; (conv => whnf)) | (refine ⟨⟨by omega, by omega⟩, ?_⟩; (conv => whnf))))
    refine load_step c0 ?_
    ((conv => whnf); repeat (first | (apply load_at; (conv => lhs; whnf); (with_reducible assumption); rfl; (conv => whnf)) | (apply load_at; (conv => lhs; rw [add_plain, add_plain]); (with_reducible assumption); rfl; (conv => whnf)) | (apply loads_at; (conv => lhs; whnf); (with_reducible assumption); rfl; (conv => whnf)) | (refine ⟨⟨by omega, by omega⟩, ?_⟩; (conv => whnf))))
    refine cond_split (fun h => ?_) (fun h => ?_)
    · have h : (pat == p) = true := h
      obtain ⟨rfl, rfl⟩ := yes j _ hx (by simpa using h)
      ((conv => whnf); repeat (first | (apply load_at; (conv => lhs; whnf); (with_reducible assumption); rfl; (conv => whnf)) | (apply load_at; (conv => lhs; rw [add_plain, add_plain]); (with_reducible assumption); rfl; (conv => whnf)) | (apply loads_at; (conv => lhs; whnf); (with_reducible assumption); rfl; (conv => whnf)) | (refine ⟨⟨by omega, by omega⟩, ?_⟩; (conv => whnf))))
      refine load_step c1 ?_
      ((conv => whnf); repeat (first | (apply load_at; (conv => lhs; whnf); (with_reducible assumption); rfl; (conv => whnf)) | (apply load_at; (conv => lhs; rw [add_plain, add_plain]); (with_reducible assumption); rfl; (conv => whnf)) | (apply loads_at; (conv => lhs; whnf); (with_reducible assumption); rfl; (conv => whnf)) | (refine ⟨⟨by omega, by omega⟩, ?_⟩; (conv => whnf))))
      refine append_mine tab_ok (n := 0) (m := pd.length) (xs := []) (ys := bytesOf pd) rfl rfl rfl rfl rfl ⟨_, rfl, fun k h => by cases h⟩ ⟨_, rfl, rfl⟩ (by decide) (Mine.nil F2 F2 _ _ (Ext.refl _)) (y := .slice pA pd.length pc) ⟨by rw [bytes_len]; exact (Nat.mul_one _).symm, .inl ⟨_, _, rfl, hxo.row.mono hbase⟩⟩ (hone_bytes _) (by have := hxo.len; show 2 * (0 + pd.length) * 1 ≤ _; dsimp only at this; omega) fun s7 F7 hM7 _ => ?_
      rw [Nat.zero_add, List.nil_append] at hM7
      ((conv => whnf); repeat (first | (apply load_at; (conv => lhs; whnf); (with_reducible assumption); rfl; (conv => whnf)) | (apply load_at; (conv => lhs; rw [add_plain, add_plain]); (with_reducible assumption); rfl; (conv => whnf)) | (apply loads_at; (conv => lhs; whnf); (with_reducible assumption); rfl; (conv => whnf)) | (refine ⟨⟨by omega, by omega⟩, ?_⟩; (conv => whnf))))
      exact ⟨_, rfl, hM7.newRow, hM7.ext⟩
    · have h : (pat == p) = false := h
      ((conv => whnf); repeat (first | (apply load_at; (conv => lhs; whnf); (with_reducible assumption); rfl; (conv => whnf)) | (apply load_at; (conv => lhs; rw [add_plain, add_plain]); (with_reducible assumption); rfl; (conv => whnf)) | (apply loads_at; (conv => lhs; whnf); (with_reducible assumption); rfl; (conv => whnf)) | (refine ⟨⟨by omega, by omega⟩, ?_⟩; (conv => whnf))))
      refine ⟨k - 1, by omega, j + 1, by omega, ?_, rfl, fun i y hi hy => ?_⟩
      · rw [← wrap_succ (j := j) (by omega)]
        rfl
      · by_cases e : i = j
        · subst e
          rw [hx] at hy
          cases hy
          simpa using h
        · exact hlt i y (by omega) hy
  · have hj : j = ps.length := by
      have h : decide ((j : Int) < (ps.length : Int)) = false := h
      have := of_decide_eq_false h
      omega
    subst hj
    obtain ⟨rfl, rfl⟩ := no fun i x hx => hlt i x (List.getElem?_eq_some_iff.1 hx).1 hx
    ((conv => whnf); repeat (first | (apply load_at; (conv => lhs; whnf); (with_reducible assumption); rfl; (conv => whnf)) | (apply load_at; (conv => lhs; rw [add_plain, add_plain]); (with_reducible assumption); rfl; (conv => whnf)) | (apply loads_at; (conv => lhs; whnf); (with_reducible assumption); rfl; (conv => whnf)) | (refine ⟨⟨by omega, by omega⟩, ?_⟩; (conv => whnf))))
    refine call_of k1 ?_
    rintro v F1 ⟨u, rfl, hu, hE1⟩
    ((conv => whnf); repeat (first | (apply load_at; (conv => lhs; whnf); (with_reducible assumption); rfl; (conv => whnf)) | (apply load_at; (conv => lhs; rw [add_plain, add_plain]); (with_reducible assumption); rfl; (conv => whnf)) | (apply loads_at; (conv => lhs; whnf); (with_reducible assumption); rfl; (conv => whnf)) | (refine ⟨⟨by omega, by omega⟩, ?_⟩; (conv => whnf))))
    exact ⟨_, rfl, hu, hE1⟩
theorem rpSet {X F : Heap} {xb : Nat} {r : RS} {q : Int} {S : PgL} (hE : Ext X F) (hX : Rp X xb r q S) (l : List UInt8) (A0 : Option Addr) (c0 : Nat) (hr0 : RowAt F A0 (bytesOf l)) (hl0 : l.length ≤ 900000) (p : Int) (hn2 : S.length < 100000) :
    FnK Tryz.prog 17 #[.pointer (some ⟨xb, 0, none⟩), .int .i64 p, .slice A0 l.length c0] F (fun v F' => v = .int .i64 (psE (r.L.length : Int) p l) ∧ ∃ X', Moves X F X' F' ∧ Rp X' xb r q (psS (r.L.length : Int) S p l)) := by
  have hX0 := hX
  obtain ⟨hs, ho, hn, lb, b, T, L, ps, G, hP⟩ := hX
  have hc := hE _ _ hP.cell
  have kP := fun F' (h : Ext F F') => Rg.pages ((hP.baseL.trans hE).trans h) hP.log
  obtain ⟨A, c, rfl, hcc, hr⟩ := hP.own.row
  replace hr := hr.mono hE
  have hmap := hP.map
  have hat : ∀ (i : Nat) x, ps[i]? = some x → S[i]? = some (x.at_, x.l) := fun i x hx => by
    rw [← hmap, List.getElem?_map, hx]; rfl
  have hln : S.length = ps.length := by rw [← hmap, List.length_map]
  have hsr := ps_srt (n := (r.L.length : Int)) hs p l
  have hok := ps_ok (n := (r.L.length : Int)) ho p l
  have hle := ps_len (n := (r.L.length : Int)) (S := S) p l
  have hpg : isPg (r.L.length : Int) p = true ↔ 0 ≤ p ∧ p < pagesN (r.L.length : Int) := isPg_iff
  have no : ¬ ((0 ≤ p ∧ p < pagesN (r.L.length : Int)) ∧ l.length = 240) → psE (r.L.length : Int) p l = 1 ∧ psS (r.L.length : Int) S p l = S := fun h => by
    unfold psE psS
    rw [if_neg (by rw [hpg]; exact h), if_neg (by rw [hpg]; exact h)]
    exact ⟨rfl, rfl⟩
  have yes : ((0 ≤ p ∧ p < pagesN (r.L.length : Int)) ∧ l.length = 240) → psE (r.L.length : Int) p l = 0 ∧ psS (r.L.length : Int) S p l = insS S p l := fun h => by
    unfold psE psS
    rw [if_pos (by rw [hpg]; exact h), if_pos (by rw [hpg]; exact h)]
    exact ⟨rfl, rfl⟩
  have hins := fun k => ins_at S k p l
  clear hpg
  generalize psE (r.L.length : Int) p l = pe at no yes ⊢
  generalize psS (r.L.length : Int) S p l = pS at no yes hsr hok hle ⊢
  generalize pagesN (r.L.length : Int) = P at kP no yes
  have fin : ¬ ((0 ≤ p ∧ p < P) ∧ l.length = 240) → Value.int .i64 1 = .int .i64 pe ∧ ∃ X', Moves X F X' F ∧ Rp X' xb r q pS := fun h => by
    obtain ⟨rfl, rfl⟩ := no h
    exact ⟨rfl, X, Moves.refl hE, hX0⟩
  have k0 := kP F (Ext.refl F)
  (refine fn_walk tab_ok Tryz.func17 rfl rfl rfl rfl ?_; (conv => whnf))
  cases hd : decide (p < 0) with
  | true =>
    have h := of_decide_eq_true hd
    ((conv => whnf); repeat (first | (apply load_at; (conv => lhs; whnf); (with_reducible assumption); rfl; (conv => whnf)) | (apply load_at; (conv => lhs; rw [add_plain, add_plain]); (with_reducible assumption); rfl; (conv => whnf)) | (apply loads_at; (conv => lhs; whnf); (with_reducible assumption); rfl; (conv => whnf)) | (refine ⟨⟨by omega, by omega⟩, ?_⟩; (conv => whnf))))
    exact fin (by omega)
  | false =>
  have h0 := of_decide_eq_false hd
  ((conv => whnf); repeat (first | (apply load_at; (conv => lhs; whnf); (with_reducible assumption); rfl; (conv => whnf)) | (apply load_at; (conv => lhs; rw [add_plain, add_plain]); (with_reducible assumption); rfl; (conv => whnf)) | (apply loads_at; (conv => lhs; whnf); (with_reducible assumption); rfl; (conv => whnf)) | (refine ⟨⟨by omega, by omega⟩, ?_⟩; (conv => whnf))))
  refine call_of k0 ?_
  rintro v F ⟨rfl, rfl⟩
  ((conv => whnf); repeat (first | (apply load_at; (conv => lhs; whnf); (with_reducible assumption); rfl; (conv => whnf)) | (apply load_at; (conv => lhs; rw [add_plain, add_plain]); (with_reducible assumption); rfl; (conv => whnf)) | (apply loads_at; (conv => lhs; whnf); (with_reducible assumption); rfl; (conv => whnf)) | (refine ⟨⟨by omega, by omega⟩, ?_⟩; (conv => whnf))))
  cases hd2 : decide (p ≥ P) with
  | true =>
    have h := of_decide_eq_true hd2
    ((conv => whnf); repeat (first | (apply load_at; (conv => lhs; whnf); (with_reducible assumption); rfl; (conv => whnf)) | (apply load_at; (conv => lhs; rw [add_plain, add_plain]); (with_reducible assumption); rfl; (conv => whnf)) | (apply loads_at; (conv => lhs; whnf); (with_reducible assumption); rfl; (conv => whnf)) | (refine ⟨⟨by omega, by omega⟩, ?_⟩; (conv => whnf))))
    exact fin (by omega)
  | false =>
  have h1 := of_decide_eq_false hd2
  ((conv => whnf); repeat (first | (apply load_at; (conv => lhs; whnf); (with_reducible assumption); rfl; (conv => whnf)) | (apply load_at; (conv => lhs; rw [add_plain, add_plain]); (with_reducible assumption); rfl; (conv => whnf)) | (apply loads_at; (conv => lhs; whnf); (with_reducible assumption); rfl; (conv => whnf)) | (refine ⟨⟨by omega, by omega⟩, ?_⟩; (conv => whnf))))
  refine cond_split (fun h => ?_) (fun h => ?_)
  · have h : ((l.length : Int) != 240) = true := h
    have hne : l.length ≠ 240 := fun e => by rw [e] at h; exact absurd h (by decide)
    ((conv => whnf); repeat (first | (apply load_at; (conv => lhs; whnf); (with_reducible assumption); rfl; (conv => whnf)) | (apply load_at; (conv => lhs; rw [add_plain, add_plain]); (with_reducible assumption); rfl; (conv => whnf)) | (apply loads_at; (conv => lhs; whnf); (with_reducible assumption); rfl; (conv => whnf)) | (refine ⟨⟨by omega, by omega⟩, ?_⟩; (conv => whnf))))
    exact fin (by omega)
  have h : ((l.length : Int) != 240) = false := h
  have hl2 : l.length = 240 := by have := bne_eq_false_iff_eq.1 h; omega
  clear h hd hd2
  obtain ⟨rfl, hy2⟩ := yes ⟨by omega, hl2⟩
  refine short [0, 1, 2] [.pointer (some ⟨xb, 0, none⟩), .int .i64 p, .slice A0 l.length c0] rfl fun ρ => ?_
  ((conv => whnf); repeat (first | (apply load_at; (conv => lhs; whnf); (with_reducible assumption); rfl; (conv => whnf)) | (apply load_at; (conv => lhs; rw [add_plain, add_plain]); (with_reducible assumption); rfl; (conv => whnf)) | (apply loads_at; (conv => lhs; whnf); (with_reducible assumption); rfl; (conv => whnf)) | (refine ⟨⟨by omega, by omega⟩, ?_⟩; (conv => whnf))))
  refine append_mine tab_ok (n := 0) (m := l.length) (xs := []) (ys := bytesOf l) rfl rfl rfl rfl rfl ⟨_, rfl, fun k h => by cases h⟩ ⟨_, rfl, rfl⟩ (by decide) (Mine.nil F F _ _ (Ext.refl _)) (y := .slice A0 l.length c0) ⟨by rw [bytes_len]; exact (Nat.mul_one _).symm, .inl ⟨_, _, rfl, hr0⟩⟩ (hone_bytes _) (by show 2 * (0 + l.length) * 1 ≤ _; omega) fun s7 F7 hM7 _ => ?_
  rw [Nat.zero_add, List.nil_append] at hM7
  obtain ⟨A7, c7, rfl, hc7, hr7⟩ := hM7.own.row
  have f7 : ∀ a, A7 = some a → F a.block = none := fun a ha => hM7.fresh _ (by rw [ha]; rfl)
  have hA7 : ∀ a, A7 = some a → F7 a.block ≠ none := fun a ha e => by
    subst ha
    obtain ⟨ad, h1, h2⟩ := hr7 0 ((bytesOf l)[0]'(by rw [bytes_len]; omega)) (List.getElem?_eq_getElem _)
    cases h1
    obtain ⟨cc, ee, fz, h3, _, _⟩ := cell_block h2
    rw [add_block, e] at h3
    cases h3
  have hc7x := hM7.ext _ _ hc
  have hr7x := hr.mono hM7.ext
  have hex : ∀ (i : Nat) (y : Int × List UInt8), S[i]? = some y → ∃ x : PcR, ps[i]? = some x ∧ pcW x = y := fun i y hy => by
    rw [← hmap, List.getElem?_map] at hy
    obtain ⟨x, h1, h2⟩ := Option.map_eq_some_iff.1 hy
    exact ⟨x, h1, h2⟩
  ((conv => whnf); repeat (first | (apply load_at; (conv => lhs; whnf); (with_reducible assumption); rfl; (conv => whnf)) | (apply load_at; (conv => lhs; rw [add_plain, add_plain]); (with_reducible assumption); rfl; (conv => whnf)) | (apply loads_at; (conv => lhs; whnf); (with_reducible assumption); rfl; (conv => whnf)) | (refine ⟨⟨by omega, by omega⟩, ?_⟩; (conv => whnf))))
  refine loop_slots [0, 1, 7, 8] (fun k vs F' => ∃ j : Nat, j + k = ps.length ∧ vs = [.pointer (some ⟨xb, 0, none⟩), .int .i64 p, .slice A7 l.length c7, .int .i64 (j : Int)] ∧ F7 = F' ∧ ∀ (i : Nat) x, i < j → ps[i]? = some x → x.at_ < p) ps.length ⟨0, by omega, rfl, rfl, fun i x h => by omega⟩ ?_
  rintro k vs F2 ρ2 ⟨j, hjk, rfl, rfl, hlt⟩
  ((conv => whnf); repeat (first | (apply load_at; (conv => lhs; whnf); (with_reducible assumption); rfl; (conv => whnf)) | (apply load_at; (conv => lhs; rw [add_plain, add_plain]); (with_reducible assumption); rfl; (conv => whnf)) | (apply loads_at; (conv => lhs; whnf); (with_reducible assumption); rfl; (conv => whnf)) | (refine ⟨⟨by omega, by omega⟩, ?_⟩; (conv => whnf))))
  cases hd : decide ((j : Int) < (ps.length : Int)) with
  | true =>
    have hj : j < ps.length := by have := of_decide_eq_true hd; omega
    clear hd
    obtain ⟨ad, rfl⟩ := hr7x.some (by rw [rowS_len pcC_len]; omega)
    obtain ⟨x, hx⟩ : ∃ x, ps[j]? = some x := ⟨_, List.getElem?_eq_getElem hj⟩
    have c0 := rowS_cell pcC_len hr7x hx (q := 0) rfl
    ((conv => whnf); repeat (first | (apply load_at; (conv => lhs; whnf); (with_reducible assumption); rfl; (conv => whnf)) | (apply load_at; (conv => lhs; rw [add_plain, add_plain]); (with_reducible assumption); rfl; (conv => whnf)) | (apply loads_at; (conv => lhs; whnf); (with_reducible assumption); rfl; (conv => whnf)) | (refine ⟨⟨by omega, by omega⟩, ?_⟩; (conv => whnf))))
    refine load_step c0 ?_
    ((conv => whnf); repeat (first | (apply load_at; (conv => lhs; whnf); (with_reducible assumption); rfl; (conv => whnf)) | (apply load_at; (conv => lhs; rw [add_plain, add_plain]); (with_reducible assumption); rfl; (conv => whnf)) | (apply loads_at; (conv => lhs; whnf); (with_reducible assumption); rfl; (conv => whnf)) | (refine ⟨⟨by omega, by omega⟩, ?_⟩; (conv => whnf))))
    refine cond_split (fun h => ?_) (fun h => ?_)
    · have h := of_decide_eq_true (show decide (x.at_ < p) = true from h)
      ((conv => whnf); repeat (first | (apply load_at; (conv => lhs; whnf); (with_reducible assumption); rfl; (conv => whnf)) | (apply load_at; (conv => lhs; rw [add_plain, add_plain]); (with_reducible assumption); rfl; (conv => whnf)) | (apply loads_at; (conv => lhs; whnf); (with_reducible assumption); rfl; (conv => whnf)) | (refine ⟨⟨by omega, by omega⟩, ?_⟩; (conv => whnf))))
      refine ⟨k - 1, by omega, j + 1, by omega, ?_, rfl, fun i y hi hy => ?_⟩
      · rw [← wrap_succ (j := j) (by omega)]
        rfl
      · by_cases e : i = j
        · subst e
          rw [hx] at hy
          cases hy
          exact h
        · exact hlt i y (by omega) hy
    have hge0 := of_decide_eq_false (show decide (x.at_ < p) = false from h)
    clear h
    have hd9 : decide ((j : Int) < (ps.length : Int)) = true := decide_eq_true (by omega)
    refine short [0, 1, 7, 8] [.pointer (some ⟨xb, 0, none⟩), .int .i64 p, .slice A7 l.length c7, .int .i64 (j : Int)] rfl fun ρ => ?_
    ((conv => whnf); repeat (first | (apply load_at; (conv => lhs; whnf); (with_reducible assumption); rfl; (conv => whnf)) | (apply load_at; (conv => lhs; rw [add_plain, add_plain]); (with_reducible assumption); rfl; (conv => whnf)) | (apply loads_at; (conv => lhs; whnf); (with_reducible assumption); rfl; (conv => whnf)) | (refine ⟨⟨by omega, by omega⟩, ?_⟩; (conv => whnf))))
    rw [hd9]
    ((conv => whnf); repeat (first | (apply load_at; (conv => lhs; whnf); (with_reducible assumption); rfl; (conv => whnf)) | (apply load_at; (conv => lhs; rw [add_plain, add_plain]); (with_reducible assumption); rfl; (conv => whnf)) | (apply loads_at; (conv => lhs; whnf); (with_reducible assumption); rfl; (conv => whnf)) | (refine ⟨⟨by omega, by omega⟩, ?_⟩; (conv => whnf))))
    refine load_step c0 ?_
    ((conv => whnf); repeat (first | (apply load_at; (conv => lhs; whnf); (with_reducible assumption); rfl; (conv => whnf)) | (apply load_at; (conv => lhs; rw [add_plain, add_plain]); (with_reducible assumption); rfl; (conv => whnf)) | (apply loads_at; (conv => lhs; whnf); (with_reducible assumption); rfl; (conv => whnf)) | (refine ⟨⟨by omega, by omega⟩, ?_⟩; (conv => whnf))))
    refine cond_split (fun h => ?_) (fun h => ?_)
    · have h : (x.at_ == p) = true := h
      have hxp : x.at_ = p := by simpa using h
      clear h
      have hO7 := hP.own.of_blk (F' := F7) fun k o _ ho => hM7.ext _ _ (hE _ _ ho)
      obtain ⟨b0, rfl⟩ : ∃ b0, ad = ⟨b0, 0, none⟩ := by
        rcases hO7.2 with ⟨h1, _⟩ | ⟨b0, _, _, h1, _⟩
        · cases h1
        · cases h1; exact ⟨b0, rfl⟩
      refine short [0, 1, 7, 8] [.pointer (some ⟨xb, 0, none⟩), .int .i64 p, .slice A7 l.length c7, .int .i64 (j : Int)] rfl fun ρ => ?_
      ((conv => whnf); repeat (first | (apply load_at; (conv => lhs; whnf); (with_reducible assumption); rfl; (conv => whnf)) | (apply load_at; (conv => lhs; rw [add_plain, add_plain]); (with_reducible assumption); rfl; (conv => whnf)) | (apply loads_at; (conv => lhs; whnf); (with_reducible assumption); rfl; (conv => whnf)) | (refine ⟨⟨by omega, by omega⟩, ?_⟩; (conv => whnf))))
      refine own_setD hO7 hx (by rw [Int.toNat_natCast, add_plain, Nat.zero_add]; rfl) (y := ⟨x.at_, l, A7, c7⟩) rfl rfl fun F8 hO8 hK8 => ?_
      obtain ⟨X', m1, m2⟩ := hP.inPlace hE hM7.ext (ps' := ps.set j ⟨x.at_, l, A7, c7⟩) (by rw [List.length_set]; exact hO8) hK8 (fun y hy => by
        rcases List.mem_or_eq_of_mem_set hy with hy | rfl
        · exact (hP.ok y hy).mono (gain_ext (hP.base.trans hE))
        · exact ⟨rowAt_gain hr7 f7, by show l.length ≤ 900000; omega⟩)
      have hpS : pS = (ps.set j (⟨x.at_, l, A7, c7⟩ : PcR)).map pcW := by
        rw [hy2, hins j (by omega) (fun i y hi hy => ?_) (fun y hy => ?_), if_pos, List.map_set, hmap]
        · rw [← hxp]; rfl
        · exact ⟨_, hat j x hx, hxp⟩
        · obtain ⟨x', hx', rfl⟩ := hex i y hy
          exact hlt i x' hi hx'
        · rw [hat j x hx] at hy
          cases hy
          exact hge0
      ((conv => whnf); repeat (first | (apply load_at; (conv => lhs; whnf); (with_reducible assumption); rfl; (conv => whnf)) | (apply load_at; (conv => lhs; rw [add_plain, add_plain]); (with_reducible assumption); rfl; (conv => whnf)) | (apply loads_at; (conv => lhs; whnf); (with_reducible assumption); rfl; (conv => whnf)) | (refine ⟨⟨by omega, by omega⟩, ?_⟩; (conv => whnf))))
      exact ⟨rfl, X', m1, hsr, hok, by omega, lb, b, _, L, _, _, by rw [hpS]; exact m2⟩
    · have h : (x.at_ == p) = false := h
      have hne : x.at_ ≠ p := by simpa using h
      have hge : ∀ y : PcR, ps[j]? = some y → p < y.at_ := fun y hy => by
        rw [hx] at hy
        cases hy
        omega
      clear h
      have hpS : pS = (ps.take j ++ ⟨p, l, A7, c7⟩ :: ps.drop j).map pcW := by
        rw [hy2, hins j (by omega) (fun i y hi hy => ?_) (fun y hy => ?_), if_neg, List.map_append, List.map_cons, List.map_take, List.map_drop, hmap]
        · rfl
        · rintro ⟨y, hy, e⟩
          obtain ⟨x, hx, rfl⟩ := hex j y hy
          have := hge x hx
          have e : x.at_ = p := e
          omega
        · obtain ⟨x, hx, rfl⟩ := hex i y hy
          exact hlt i x hi hx
        · obtain ⟨x, hx, rfl⟩ := hex j y hy
          have := hge x hx
          show ¬ x.at_ < p
          omega
      have hnl : j ≤ ps.length := by omega
      have hcut1 : ∀ F', Ext F7 F' → RowAt F' (if c = 0 then (some ad : Option Addr) else (some ad : Option Addr).map (·.add (0 * 2))) (rowS pcC (ps.take j)) := fun F' hE => rowS_cut 0 j c (hr7x.mono hE) (by omega) (by omega)
      have hcut2 : ∀ F', Ext F7 F' → RowAt F' (if c = j then (some ad : Option Addr) else (some ad : Option Addr).map (·.add (j * 2))) (rowS pcC (ps.drop j)) := fun F' hE => by
        have := rowS_cut j (ps.length - j) c (hr7x.mono hE) (by omega) (by omega)
        rw [List.take_of_length_le (by rw [List.length_drop]; exact Nat.le_refl _)] at this
        exact this
      have hln10 : (ps.take j ++ (⟨p, l, A7, c7⟩ : PcR) :: ps.drop j).length = j + 1 + (ps.length - j) := by
        rw [List.length_append, List.length_take, List.length_cons, List.length_drop, Nat.min_eq_left hnl]; omega
      have hrow10 : rowS pcC (ps.take j ++ (⟨p, l, A7, c7⟩ : PcR) :: ps.drop j) = rowS pcC (ps.take j) ++ (rowS pcC [(⟨p, l, A7, c7⟩ : PcR)] ++ rowS pcC (ps.drop j)) := by
        unfold rowS
        rw [List.flatMap_append, List.flatMap_cons, List.flatMap_cons, List.flatMap_nil, List.append_nil]
      refine short [0, 1, 7, 8] [.pointer (some ⟨xb, 0, none⟩), .int .i64 p, .slice A7 l.length c7, .int .i64 (j : Int)] rfl fun ρ => ?_
      ((conv => whnf); repeat (first | (apply load_at; (conv => lhs; whnf); (with_reducible assumption); rfl; (conv => whnf)) | (apply load_at; (conv => lhs; rw [add_plain, add_plain]); (with_reducible assumption); rfl; (conv => whnf)) | (apply loads_at; (conv => lhs; whnf); (with_reducible assumption); rfl; (conv => whnf)) | (refine ⟨⟨by omega, by omega⟩, ?_⟩; (conv => whnf))))
      refine draw_tree_at tab_ok (by kernel_rfl) [4, 16, 1000] (DT.row [0, 1, 2, 3, 4, 5, 6, 8, 9, 10, 13, 14, 15, 16, 17, 18] (.fork (DT.row [7, 11, 12, 19, 20, 21, 22] .nil) (DT.row [11, 7, 12, 19, 20, 21, 22] .nil))) (by kernel_rfl) (F7.only xb) (only_ext rfl) ?_
      have hO := only_at hc7x
      have hGG : ∀ {F' : Heap}, Ext F7 F' → Ext (F7.only xb) F' := fun h => (only_ext rfl).trans h
      ((conv => whnf); repeat (first | (apply load_at; (conv => lhs; whnf); (with_reducible assumption); rfl; (conv => whnf)) | (apply load_at; (conv => lhs; rw [add_plain, add_plain]); (with_reducible assumption); rfl; (conv => whnf)) | (apply loads_at; (conv => lhs; whnf); (with_reducible assumption); rfl; (conv => whnf)) | (refine ⟨⟨by omega, by omega⟩, ?_⟩; (conv => whnf))))
      refine ⟨?_, ?_⟩
      · ((conv => whnf); repeat (first | (apply load_at; (conv => lhs; whnf); (with_reducible assumption); rfl; (conv => whnf)) | (apply load_at; (conv => lhs; rw [add_plain, add_plain]); (with_reducible assumption); rfl; (conv => whnf)) | (apply loads_at; (conv => lhs; whnf); (with_reducible assumption); rfl; (conv => whnf)) | (refine ⟨⟨by omega, by omega⟩, ?_⟩; (conv => whnf))))
        refine append_mine tab_ok rfl rfl ?hq rfl rfl ⟨_, rfl, fun k h => by cases h⟩ ⟨_, rfl, rfl⟩ (by decide) (Mine.nil F7 F7 _ _ (Ext.refl _)) (m := j) (ys := rowS pcC (ps.take j)) (y := .slice (if c = 0 then (some ad : Option Addr) else (some ad : Option Addr).map (·.add (0 * 2))) j c) ⟨by rw [rowS_len pcC_len, List.length_take, Nat.min_eq_left hnl], .inl ⟨_, _, rfl, hcut1 _ (Ext.refl _)⟩⟩ (pcs_one _) (by show 2 * (0 + j) * 32 ≤ _; omega) fun s8 F8 hM8 _ => ?_
        case hq => rfl
        rw [Nat.zero_add, List.nil_append] at hM8
        have E8 := hM8.ext
        have hnew : ∀ (F' : Heap) (k : Nat), True := fun _ _ => trivial
        clear hnew
        have hnew : ∀ {S' : Value} (k : Nat), blk S' = some k → (∀ b, blk S' = some b → F7 b = none) → F7 k = none := fun k hk h => h k hk
        (conv => whnf)
        refine ⟨hGG E8, ?_⟩
        ((conv => whnf); repeat (first | (apply load_at; (conv => lhs; whnf); (with_reducible assumption); rfl; (conv => whnf)) | (apply load_at; (conv => lhs; rw [add_plain, add_plain]); (with_reducible assumption); rfl; (conv => whnf)) | (apply loads_at; (conv => lhs; whnf); (with_reducible assumption); rfl; (conv => whnf)) | (refine ⟨⟨by omega, by omega⟩, ?_⟩; (conv => whnf))))
        refine new_step (.cells (rowS pcC [(⟨p, l, A7, c7⟩ : PcR)]).toArray 75) rfl fun g h0_g => ?_
        have hE_g := Ext.new h0_g (.cells (rowS pcC [(⟨p, l, A7, c7⟩ : PcR)]).toArray 75)
        have hB_g := Heap.put_same F8 g (.cells (rowS pcC [(⟨p, l, A7, c7⟩ : PcR)]).toArray 75)
        generalize F8.put g _ = F9 at hE_g hB_g ⊢
        (conv => whnf)
        refine ⟨hGG (E8.trans hE_g), ?_⟩
        ((conv => whnf); repeat (first | (apply load_at; (conv => lhs; whnf); (with_reducible assumption); rfl; (conv => whnf)) | (apply load_at; (conv => lhs; rw [add_plain, add_plain]); (with_reducible assumption); rfl; (conv => whnf)) | (apply loads_at; (conv => lhs; whnf); (with_reducible assumption); rfl; (conv => whnf)) | (refine ⟨⟨by omega, by omega⟩, ?_⟩; (conv => whnf))))
        refine append_mine tab_ok (m := 1) (ys := rowS pcC [(⟨p, l, A7, c7⟩ : PcR)]) (y := .slice (some ⟨g, 0, none⟩) 1 1) rfl rfl rfl rfl rfl ⟨_, rfl, fun k h => by cases h⟩ ⟨_, rfl, rfl⟩ (by decide) (hM8.mono hE_g) ⟨rfl, .inl ⟨_, _, rfl, row_blk hB_g⟩⟩ (pc_one _) (by show 2 * (j + 1) * 32 ≤ _; omega) fun s10 F10 hM10 _ => ?_
        have E10 := hM10.ext
        (conv => whnf)
        refine ⟨hGG E10, ?_⟩
        ((conv => whnf); repeat (first | (apply load_at; (conv => lhs; whnf); (with_reducible assumption); rfl; (conv => whnf)) | (apply load_at; (conv => lhs; rw [add_plain, add_plain]); (with_reducible assumption); rfl; (conv => whnf)) | (apply loads_at; (conv => lhs; whnf); (with_reducible assumption); rfl; (conv => whnf)) | (refine ⟨⟨by omega, by omega⟩, ?_⟩; (conv => whnf))))
        refine append_mine tab_ok rfl rfl ?hq2 rfl rfl ⟨_, rfl, fun k h => by cases h⟩ ⟨_, rfl, rfl⟩ (by decide) hM10 (m := ps.length - j) (ys := rowS pcC (ps.drop j)) (y := .slice (if c = j then (some ad : Option Addr) else (some ad : Option Addr).map (·.add (j * 2))) (ps.length - j) (c - j)) ⟨by rw [rowS_len pcC_len, List.length_drop], .inl ⟨_, _, rfl, hcut2 _ E10⟩⟩ (pcs_one _) (by show 2 * (j + 1 + (ps.length - j)) * 32 ≤ _; omega) fun s17 F17 hM17 _ => ?_
        case hq2 => rfl
        have E17 := hM17.ext
        (conv => whnf)
        obtain ⟨A17, c17, rfl, hc17, hr17⟩ := hM17.own.row
        have hO17 : Own F17 (.slice A17 (ps.take j ++ ⟨p, l, A7, c7⟩ :: ps.drop j).length c17) 75 2 (ps.take j ++ ⟨p, l, A7, c7⟩ :: ps.drop j).length (rowS pcC (ps.take j ++ ⟨p, l, A7, c7⟩ :: ps.drop j)) := by
          rw [hln10, hrow10, ← List.append_assoc]
          exact hM17.own
        have hbe : blk (.slice A17 (ps.take j ++ (⟨p, l, A7, c7⟩ : PcR) :: ps.drop j).length c17) = blk (.slice A17 (j + 1 + (ps.length - j)) c17) := by rw [hln10]
        obtain ⟨T1, T2⟩ := hP.other hE (hM7.ext.trans E17) (ps' := ps.take j ++ ⟨p, l, A7, c7⟩ :: ps.drop j) hO17 (fun k hk => hM7.ext.none (hnew (S' := .slice A17 (j + 1 + (ps.length - j)) c17) k (hbe.symm.trans hk) hM17.fresh)) (fun x hx => by
          rcases List.mem_append.1 hx with hx | hx
          · exact (hP.ok x (List.mem_of_mem_take hx)).mono (gain_ext (hP.base.trans hE))
          · rcases List.mem_cons.1 hx with rfl | hx
            · exact ⟨rowAt_gain (restT_row (hr7.mono E17) fun a ha e => hA7 a ha (hnew (S' := .slice A17 (j + 1 + (ps.length - j)) c17) a.block (hbe.symm.trans e) hM17.fresh)) f7, by show l.length ≤ 900000; omega⟩
            · exact (hP.ok x (List.mem_of_mem_drop hx)).mono (gain_ext (hP.base.trans hE)))
        rw [hln10] at T1 T2
        ((conv => whnf); repeat (first | (apply load_at; (conv => lhs; whnf); (with_reducible assumption); rfl; (conv => whnf)) | (apply load_at; (conv => lhs; rw [add_plain, add_plain]); (with_reducible assumption); rfl; (conv => whnf)) | (apply loads_at; (conv => lhs; whnf); (with_reducible assumption); rfl; (conv => whnf)) | (refine ⟨⟨by omega, by omega⟩, ?_⟩; (conv => whnf))))
        refine store_step xb 1 _ #[.pointer (some ⟨lb, 0, none⟩), .slice A17 (j + 1 + (ps.length - j)) c17] rfl (E17 _ _ (hM7.ext _ _ hc)) rfl rfl (.inl (Nat.le_refl 0)) (one_slice _ _ _) ?_
        ((conv => whnf); repeat (first | (apply load_at; (conv => lhs; whnf); (with_reducible assumption); rfl; (conv => whnf)) | (apply load_at; (conv => lhs; rw [add_plain, add_plain]); (with_reducible assumption); rfl; (conv => whnf)) | (apply loads_at; (conv => lhs; whnf); (with_reducible assumption); rfl; (conv => whnf)) | (refine ⟨⟨by omega, by omega⟩, ?_⟩; (conv => whnf))))
        exact ⟨rfl, _, T1, hsr, hok, by omega, lb, b, _, L, _, _, by rw [hpS]; exact T2⟩
      · ((conv => whnf); repeat (first | (apply load_at; (conv => lhs; whnf); (with_reducible assumption); rfl; (conv => whnf)) | (apply load_at; (conv => lhs; rw [add_plain, add_plain]); (with_reducible assumption); rfl; (conv => whnf)) | (apply loads_at; (conv => lhs; whnf); (with_reducible assumption); rfl; (conv => whnf)) | (refine ⟨⟨by omega, by omega⟩, ?_⟩; (conv => whnf))))
        refine new_step (.cells (rowS pcC [(⟨p, l, A7, c7⟩ : PcR)]).toArray 75) rfl fun g h0_g => ?_
        have hE_g := Ext.new h0_g (.cells (rowS pcC [(⟨p, l, A7, c7⟩ : PcR)]).toArray 75)
        have hB_g := Heap.put_same F7 g (.cells (rowS pcC [(⟨p, l, A7, c7⟩ : PcR)]).toArray 75)
        generalize F7.put g _ = F9 at hE_g hB_g ⊢
        (conv => whnf)
        refine ⟨hGG hE_g, ?_⟩
        ((conv => whnf); repeat (first | (apply load_at; (conv => lhs; whnf); (with_reducible assumption); rfl; (conv => whnf)) | (apply load_at; (conv => lhs; rw [add_plain, add_plain]); (with_reducible assumption); rfl; (conv => whnf)) | (apply loads_at; (conv => lhs; whnf); (with_reducible assumption); rfl; (conv => whnf)) | (refine ⟨⟨by omega, by omega⟩, ?_⟩; (conv => whnf))))
        refine append_mine tab_ok rfl rfl ?hq rfl rfl ⟨_, rfl, fun k h => by cases h⟩ ⟨_, rfl, rfl⟩ (by decide) (Mine.nil F9 F9 _ _ (Ext.refl _)) (m := j) (ys := rowS pcC (ps.take j)) (y := .slice (if c = 0 then (some ad : Option Addr) else (some ad : Option Addr).map (·.add (0 * 2))) j c) ⟨by rw [rowS_len pcC_len, List.length_take, Nat.min_eq_left hnl], .inl ⟨_, _, rfl, hcut1 _ hE_g⟩⟩ (pcs_one _) (by show 2 * (0 + j) * 32 ≤ _; omega) fun s8 F8 hM8 _ => ?_
        case hq => rfl
        rw [Nat.zero_add, List.nil_append] at hM8
        have E8 := hM8.ext
        have hnew : ∀ {S' : Value} (k : Nat), blk S' = some k → (∀ b, blk S' = some b → F9 b = none) → F7 k = none := fun k hk h => hE_g.none (h k hk)
        have hB_g8 := E8 _ _ hB_g
        (conv => whnf)
        refine ⟨hGG (hE_g.trans E8), ?_⟩
        ((conv => whnf); repeat (first | (apply load_at; (conv => lhs; whnf); (with_reducible assumption); rfl; (conv => whnf)) | (apply load_at; (conv => lhs; rw [add_plain, add_plain]); (with_reducible assumption); rfl; (conv => whnf)) | (apply loads_at; (conv => lhs; whnf); (with_reducible assumption); rfl; (conv => whnf)) | (refine ⟨⟨by omega, by omega⟩, ?_⟩; (conv => whnf))))
        refine append_mine tab_ok (m := 1) (ys := rowS pcC [(⟨p, l, A7, c7⟩ : PcR)]) (y := .slice (some ⟨g, 0, none⟩) 1 1) rfl rfl rfl rfl rfl ⟨_, rfl, fun k h => by cases h⟩ ⟨_, rfl, rfl⟩ (by decide) hM8 ⟨rfl, .inl ⟨_, _, rfl, row_blk hB_g8⟩⟩ (pc_one _) (by show 2 * (j + 1) * 32 ≤ _; omega) fun s10 F10 hM10 _ => ?_
        have E10 := hE_g.trans hM10.ext
        (conv => whnf)
        refine ⟨hGG E10, ?_⟩
        ((conv => whnf); repeat (first | (apply load_at; (conv => lhs; whnf); (with_reducible assumption); rfl; (conv => whnf)) | (apply load_at; (conv => lhs; rw [add_plain, add_plain]); (with_reducible assumption); rfl; (conv => whnf)) | (apply loads_at; (conv => lhs; whnf); (with_reducible assumption); rfl; (conv => whnf)) | (refine ⟨⟨by omega, by omega⟩, ?_⟩; (conv => whnf))))
        refine append_mine tab_ok rfl rfl ?hq2 rfl rfl ⟨_, rfl, fun k h => by cases h⟩ ⟨_, rfl, rfl⟩ (by decide) hM10 (m := ps.length - j) (ys := rowS pcC (ps.drop j)) (y := .slice (if c = j then (some ad : Option Addr) else (some ad : Option Addr).map (·.add (j * 2))) (ps.length - j) (c - j)) ⟨by rw [rowS_len pcC_len, List.length_drop], .inl ⟨_, _, rfl, hcut2 _ E10⟩⟩ (pcs_one _) (by show 2 * (j + 1 + (ps.length - j)) * 32 ≤ _; omega) fun s17 F17 hM17 _ => ?_
        case hq2 => rfl
        have E17 := hE_g.trans hM17.ext
        (conv => whnf)
        obtain ⟨A17, c17, rfl, hc17, hr17⟩ := hM17.own.row
        have hO17 : Own F17 (.slice A17 (ps.take j ++ ⟨p, l, A7, c7⟩ :: ps.drop j).length c17) 75 2 (ps.take j ++ ⟨p, l, A7, c7⟩ :: ps.drop j).length (rowS pcC (ps.take j ++ ⟨p, l, A7, c7⟩ :: ps.drop j)) := by
          rw [hln10, hrow10, ← List.append_assoc]
          exact hM17.own
        have hbe : blk (.slice A17 (ps.take j ++ (⟨p, l, A7, c7⟩ : PcR) :: ps.drop j).length c17) = blk (.slice A17 (j + 1 + (ps.length - j)) c17) := by rw [hln10]
        obtain ⟨T1, T2⟩ := hP.other hE (hM7.ext.trans E17) (ps' := ps.take j ++ ⟨p, l, A7, c7⟩ :: ps.drop j) hO17 (fun k hk => hM7.ext.none (hnew (S' := .slice A17 (j + 1 + (ps.length - j)) c17) k (hbe.symm.trans hk) hM17.fresh)) (fun x hx => by
          rcases List.mem_append.1 hx with hx | hx
          · exact (hP.ok x (List.mem_of_mem_take hx)).mono (gain_ext (hP.base.trans hE))
          · rcases List.mem_cons.1 hx with rfl | hx
            · exact ⟨rowAt_gain (restT_row (hr7.mono E17) fun a ha e => hA7 a ha (hnew (S' := .slice A17 (j + 1 + (ps.length - j)) c17) a.block (hbe.symm.trans e) hM17.fresh)) f7, by show l.length ≤ 900000; omega⟩
            · exact (hP.ok x (List.mem_of_mem_drop hx)).mono (gain_ext (hP.base.trans hE)))
        rw [hln10] at T1 T2
        ((conv => whnf); repeat (first | (apply load_at; (conv => lhs; whnf); (with_reducible assumption); rfl; (conv => whnf)) | (apply load_at; (conv => lhs; rw [add_plain, add_plain]); (with_reducible assumption); rfl; (conv => whnf)) | (apply loads_at; (conv => lhs; whnf); (with_reducible assumption); rfl; (conv => whnf)) | (refine ⟨⟨by omega, by omega⟩, ?_⟩; (conv => whnf))))
        refine store_step xb 1 _ #[.pointer (some ⟨lb, 0, none⟩), .slice A17 (j + 1 + (ps.length - j)) c17] rfl (E17 _ _ (hM7.ext _ _ hc)) rfl rfl (.inl (Nat.le_refl 0)) (one_slice _ _ _) ?_
        ((conv => whnf); repeat (first | (apply load_at; (conv => lhs; whnf); (with_reducible assumption); rfl; (conv => whnf)) | (apply load_at; (conv => lhs; rw [add_plain, add_plain]); (with_reducible assumption); rfl; (conv => whnf)) | (apply loads_at; (conv => lhs; whnf); (with_reducible assumption); rfl; (conv => whnf)) | (refine ⟨⟨by omega, by omega⟩, ?_⟩; (conv => whnf))))
        exact ⟨rfl, _, T1, hsr, hok, by omega, lb, b, _, L, _, _, by rw [hpS]; exact T2⟩
  | false =>
    have hj : j = ps.length := by have := of_decide_eq_false hd; omega
    have hd9 : decide ((j : Int) < (ps.length : Int)) = false := hd
    clear hd
    have hge : ∀ y : PcR, ps[j]? = some y → p < y.at_ := fun y hy => by
      rw [List.getElem?_eq_none (by omega)] at hy
      cases hy
    ((conv => whnf); repeat (first | (apply load_at; (conv => lhs; whnf); (with_reducible assumption); rfl; (conv => whnf)) | (apply load_at; (conv => lhs; rw [add_plain, add_plain]); (with_reducible assumption); rfl; (conv => whnf)) | (apply loads_at; (conv => lhs; whnf); (with_reducible assumption); rfl; (conv => whnf)) | (refine ⟨⟨by omega, by omega⟩, ?_⟩; (conv => whnf))))
    rw [hd9]
    ((conv => whnf); repeat (first | (apply load_at; (conv => lhs; whnf); (with_reducible assumption); rfl; (conv => whnf)) | (apply load_at; (conv => lhs; rw [add_plain, add_plain]); (with_reducible assumption); rfl; (conv => whnf)) | (apply loads_at; (conv => lhs; whnf); (with_reducible assumption); rfl; (conv => whnf)) | (refine ⟨⟨by omega, by omega⟩, ?_⟩; (conv => whnf))))
    have hpS : pS = (ps.take j ++ ⟨p, l, A7, c7⟩ :: ps.drop j).map pcW := by
      rw [hy2, hins j (by omega) (fun i y hi hy => ?_) (fun y hy => ?_), if_neg, List.map_append, List.map_cons, List.map_take, List.map_drop, hmap]
      · rfl
      · rintro ⟨y, hy, e⟩
        obtain ⟨x, hx, rfl⟩ := hex j y hy
        have := hge x hx
        have e : x.at_ = p := e
        omega
      · obtain ⟨x, hx, rfl⟩ := hex i y hy
        exact hlt i x hi hx
      · obtain ⟨x, hx, rfl⟩ := hex j y hy
        have := hge x hx
        show ¬ x.at_ < p
        omega
    have hnl : j ≤ ps.length := by omega
    have hcut1 : ∀ F', Ext F7 F' → RowAt F' (if c = 0 then A else A.map (·.add (0 * 2))) (rowS pcC (ps.take j)) := fun F' hE => rowS_cut 0 j c (hr7x.mono hE) (by omega) (by omega)
    have hcut2 : ∀ F', Ext F7 F' → RowAt F' (if c = j then A else A.map (·.add (j * 2))) (rowS pcC (ps.drop j)) := fun F' hE => by
      have := rowS_cut j (ps.length - j) c (hr7x.mono hE) (by omega) (by omega)
      rw [List.take_of_length_le (by rw [List.length_drop]; exact Nat.le_refl _)] at this
      exact this
    have hln10 : (ps.take j ++ (⟨p, l, A7, c7⟩ : PcR) :: ps.drop j).length = j + 1 + (ps.length - j) := by
      rw [List.length_append, List.length_take, List.length_cons, List.length_drop, Nat.min_eq_left hnl]; omega
    have hrow10 : rowS pcC (ps.take j ++ (⟨p, l, A7, c7⟩ : PcR) :: ps.drop j) = rowS pcC (ps.take j) ++ (rowS pcC [(⟨p, l, A7, c7⟩ : PcR)] ++ rowS pcC (ps.drop j)) := by
      unfold rowS
      rw [List.flatMap_append, List.flatMap_cons, List.flatMap_cons, List.flatMap_nil, List.append_nil]
    refine short [0, 1, 7, 8] [.pointer (some ⟨xb, 0, none⟩), .int .i64 p, .slice A7 l.length c7, .int .i64 (j : Int)] rfl fun ρ => ?_
    ((conv => whnf); repeat (first | (apply load_at; (conv => lhs; whnf); (with_reducible assumption); rfl; (conv => whnf)) | (apply load_at; (conv => lhs; rw [add_plain, add_plain]); (with_reducible assumption); rfl; (conv => whnf)) | (apply loads_at; (conv => lhs; whnf); (with_reducible assumption); rfl; (conv => whnf)) | (refine ⟨⟨by omega, by omega⟩, ?_⟩; (conv => whnf))))
    refine draw_tree_at tab_ok (by kernel_rfl) [4, 16, 1000] (DT.row [0, 1, 2, 3, 4, 5, 6, 8, 9, 10, 13, 14, 15, 16, 17, 18] (.fork (DT.row [7, 11, 12, 19, 20, 21, 22] .nil) (DT.row [11, 7, 12, 19, 20, 21, 22] .nil))) (by kernel_rfl) (F7.only xb) (only_ext rfl) ?_
    have hO := only_at hc7x
    have hGG : ∀ {F' : Heap}, Ext F7 F' → Ext (F7.only xb) F' := fun h => (only_ext rfl).trans h
    ((conv => whnf); repeat (first | (apply load_at; (conv => lhs; whnf); (with_reducible assumption); rfl; (conv => whnf)) | (apply load_at; (conv => lhs; rw [add_plain, add_plain]); (with_reducible assumption); rfl; (conv => whnf)) | (apply loads_at; (conv => lhs; whnf); (with_reducible assumption); rfl; (conv => whnf)) | (refine ⟨⟨by omega, by omega⟩, ?_⟩; (conv => whnf))))
    refine ⟨?_, ?_⟩
    · ((conv => whnf); repeat (first | (apply load_at; (conv => lhs; whnf); (with_reducible assumption); rfl; (conv => whnf)) | (apply load_at; (conv => lhs; rw [add_plain, add_plain]); (with_reducible assumption); rfl; (conv => whnf)) | (apply loads_at; (conv => lhs; whnf); (with_reducible assumption); rfl; (conv => whnf)) | (refine ⟨⟨by omega, by omega⟩, ?_⟩; (conv => whnf))))
      refine append_mine tab_ok rfl rfl ?hq rfl rfl ⟨_, rfl, fun k h => by cases h⟩ ⟨_, rfl, rfl⟩ (by decide) (Mine.nil F7 F7 _ _ (Ext.refl _)) (m := j) (ys := rowS pcC (ps.take j)) (y := .slice (if c = 0 then A else A.map (·.add (0 * 2))) j c) ⟨by rw [rowS_len pcC_len, List.length_take, Nat.min_eq_left hnl], .inl ⟨_, _, rfl, hcut1 _ (Ext.refl _)⟩⟩ (pcs_one _) (by show 2 * (0 + j) * 32 ≤ _; omega) fun s8 F8 hM8 _ => ?_
      case hq => rfl
      rw [Nat.zero_add, List.nil_append] at hM8
      have E8 := hM8.ext
      have hnew : ∀ (F' : Heap) (k : Nat), True := fun _ _ => trivial
      clear hnew
      have hnew : ∀ {S' : Value} (k : Nat), blk S' = some k → (∀ b, blk S' = some b → F7 b = none) → F7 k = none := fun k hk h => h k hk
      (conv => whnf)
      refine ⟨hGG E8, ?_⟩
      ((conv => whnf); repeat (first | (apply load_at; (conv => lhs; whnf); (with_reducible assumption); rfl; (conv => whnf)) | (apply load_at; (conv => lhs; rw [add_plain, add_plain]); (with_reducible assumption); rfl; (conv => whnf)) | (apply loads_at; (conv => lhs; whnf); (with_reducible assumption); rfl; (conv => whnf)) | (refine ⟨⟨by omega, by omega⟩, ?_⟩; (conv => whnf))))
      refine new_step (.cells (rowS pcC [(⟨p, l, A7, c7⟩ : PcR)]).toArray 75) rfl fun g h0_g => ?_
      have hE_g := Ext.new h0_g (.cells (rowS pcC [(⟨p, l, A7, c7⟩ : PcR)]).toArray 75)
      have hB_g := Heap.put_same F8 g (.cells (rowS pcC [(⟨p, l, A7, c7⟩ : PcR)]).toArray 75)
      generalize F8.put g _ = F9 at hE_g hB_g ⊢
      (conv => whnf)
      refine ⟨hGG (E8.trans hE_g), ?_⟩
      ((conv => whnf); repeat (first | (apply load_at; (conv => lhs; whnf); (with_reducible assumption); rfl; (conv => whnf)) | (apply load_at; (conv => lhs; rw [add_plain, add_plain]); (with_reducible assumption); rfl; (conv => whnf)) | (apply loads_at; (conv => lhs; whnf); (with_reducible assumption); rfl; (conv => whnf)) | (refine ⟨⟨by omega, by omega⟩, ?_⟩; (conv => whnf))))
      refine append_mine tab_ok (m := 1) (ys := rowS pcC [(⟨p, l, A7, c7⟩ : PcR)]) (y := .slice (some ⟨g, 0, none⟩) 1 1) rfl rfl rfl rfl rfl ⟨_, rfl, fun k h => by cases h⟩ ⟨_, rfl, rfl⟩ (by decide) (hM8.mono hE_g) ⟨rfl, .inl ⟨_, _, rfl, row_blk hB_g⟩⟩ (pc_one _) (by show 2 * (j + 1) * 32 ≤ _; omega) fun s10 F10 hM10 _ => ?_
      have E10 := hM10.ext
      (conv => whnf)
      refine ⟨hGG E10, ?_⟩
      ((conv => whnf); repeat (first | (apply load_at; (conv => lhs; whnf); (with_reducible assumption); rfl; (conv => whnf)) | (apply load_at; (conv => lhs; rw [add_plain, add_plain]); (with_reducible assumption); rfl; (conv => whnf)) | (apply loads_at; (conv => lhs; whnf); (with_reducible assumption); rfl; (conv => whnf)) | (refine ⟨⟨by omega, by omega⟩, ?_⟩; (conv => whnf))))
      refine append_mine tab_ok rfl rfl ?hq2 rfl rfl ⟨_, rfl, fun k h => by cases h⟩ ⟨_, rfl, rfl⟩ (by decide) hM10 (m := ps.length - j) (ys := rowS pcC (ps.drop j)) (y := .slice (if c = j then A else A.map (·.add (j * 2))) (ps.length - j) (c - j)) ⟨by rw [rowS_len pcC_len, List.length_drop], .inl ⟨_, _, rfl, hcut2 _ E10⟩⟩ (pcs_one _) (by show 2 * (j + 1 + (ps.length - j)) * 32 ≤ _; omega) fun s17 F17 hM17 _ => ?_
      case hq2 => rfl
      have E17 := hM17.ext
      (conv => whnf)
      obtain ⟨A17, c17, rfl, hc17, hr17⟩ := hM17.own.row
      have hO17 : Own F17 (.slice A17 (ps.take j ++ ⟨p, l, A7, c7⟩ :: ps.drop j).length c17) 75 2 (ps.take j ++ ⟨p, l, A7, c7⟩ :: ps.drop j).length (rowS pcC (ps.take j ++ ⟨p, l, A7, c7⟩ :: ps.drop j)) := by
        rw [hln10, hrow10, ← List.append_assoc]
        exact hM17.own
      have hbe : blk (.slice A17 (ps.take j ++ (⟨p, l, A7, c7⟩ : PcR) :: ps.drop j).length c17) = blk (.slice A17 (j + 1 + (ps.length - j)) c17) := by rw [hln10]
      obtain ⟨T1, T2⟩ := hP.other hE (hM7.ext.trans E17) (ps' := ps.take j ++ ⟨p, l, A7, c7⟩ :: ps.drop j) hO17 (fun k hk => hM7.ext.none (hnew (S' := .slice A17 (j + 1 + (ps.length - j)) c17) k (hbe.symm.trans hk) hM17.fresh)) (fun x hx => by
        rcases List.mem_append.1 hx with hx | hx
        · exact (hP.ok x (List.mem_of_mem_take hx)).mono (gain_ext (hP.base.trans hE))
        · rcases List.mem_cons.1 hx with rfl | hx
          · exact ⟨rowAt_gain (restT_row (hr7.mono E17) fun a ha e => hA7 a ha (hnew (S' := .slice A17 (j + 1 + (ps.length - j)) c17) a.block (hbe.symm.trans e) hM17.fresh)) f7, by show l.length ≤ 900000; omega⟩
          · exact (hP.ok x (List.mem_of_mem_drop hx)).mono (gain_ext (hP.base.trans hE)))
      rw [hln10] at T1 T2
      ((conv => whnf); repeat (first | (apply load_at; (conv => lhs; whnf); (with_reducible assumption); rfl; (conv => whnf)) | (apply load_at; (conv => lhs; rw [add_plain, add_plain]); (with_reducible assumption); rfl; (conv => whnf)) | (apply loads_at; (conv => lhs; whnf); (with_reducible assumption); rfl; (conv => whnf)) | (refine ⟨⟨by omega, by omega⟩, ?_⟩; (conv => whnf))))
      refine store_step xb 1 _ #[.pointer (some ⟨lb, 0, none⟩), .slice A17 (j + 1 + (ps.length - j)) c17] rfl (E17 _ _ (hM7.ext _ _ hc)) rfl rfl (.inl (Nat.le_refl 0)) (one_slice _ _ _) ?_
      ((conv => whnf); repeat (first | (apply load_at; (conv => lhs; whnf); (with_reducible assumption); rfl; (conv => whnf)) | (apply load_at; (conv => lhs; rw [add_plain, add_plain]); (with_reducible assumption); rfl; (conv => whnf)) | (apply loads_at; (conv => lhs; whnf); (with_reducible assumption); rfl; (conv => whnf)) | (refine ⟨⟨by omega, by omega⟩, ?_⟩; (conv => whnf))))
      exact ⟨rfl, _, T1, hsr, hok, by omega, lb, b, _, L, _, _, by rw [hpS]; exact T2⟩
    · ((conv => whnf); repeat (first | (apply load_at; (conv => lhs; whnf); (with_reducible assumption); rfl; (conv => whnf)) | (apply load_at; (conv => lhs; rw [add_plain, add_plain]); (with_reducible assumption); rfl; (conv => whnf)) | (apply loads_at; (conv => lhs; whnf); (with_reducible assumption); rfl; (conv => whnf)) | (refine ⟨⟨by omega, by omega⟩, ?_⟩; (conv => whnf))))
      refine new_step (.cells (rowS pcC [(⟨p, l, A7, c7⟩ : PcR)]).toArray 75) rfl fun g h0_g => ?_
      have hE_g := Ext.new h0_g (.cells (rowS pcC [(⟨p, l, A7, c7⟩ : PcR)]).toArray 75)
      have hB_g := Heap.put_same F7 g (.cells (rowS pcC [(⟨p, l, A7, c7⟩ : PcR)]).toArray 75)
      generalize F7.put g _ = F9 at hE_g hB_g ⊢
      (conv => whnf)
      refine ⟨hGG hE_g, ?_⟩
      ((conv => whnf); repeat (first | (apply load_at; (conv => lhs; whnf); (with_reducible assumption); rfl; (conv => whnf)) | (apply load_at; (conv => lhs; rw [add_plain, add_plain]); (with_reducible assumption); rfl; (conv => whnf)) | (apply loads_at; (conv => lhs; whnf); (with_reducible assumption); rfl; (conv => whnf)) | (refine ⟨⟨by omega, by omega⟩, ?_⟩; (conv => whnf))))
      refine append_mine tab_ok rfl rfl ?hq rfl rfl ⟨_, rfl, fun k h => by cases h⟩ ⟨_, rfl, rfl⟩ (by decide) (Mine.nil F9 F9 _ _ (Ext.refl _)) (m := j) (ys := rowS pcC (ps.take j)) (y := .slice (if c = 0 then A else A.map (·.add (0 * 2))) j c) ⟨by rw [rowS_len pcC_len, List.length_take, Nat.min_eq_left hnl], .inl ⟨_, _, rfl, hcut1 _ hE_g⟩⟩ (pcs_one _) (by show 2 * (0 + j) * 32 ≤ _; omega) fun s8 F8 hM8 _ => ?_
      case hq => rfl
      rw [Nat.zero_add, List.nil_append] at hM8
      have E8 := hM8.ext
      have hnew : ∀ {S' : Value} (k : Nat), blk S' = some k → (∀ b, blk S' = some b → F9 b = none) → F7 k = none := fun k hk h => hE_g.none (h k hk)
      have hB_g8 := E8 _ _ hB_g
      (conv => whnf)
      refine ⟨hGG (hE_g.trans E8), ?_⟩
      ((conv => whnf); repeat (first | (apply load_at; (conv => lhs; whnf); (with_reducible assumption); rfl; (conv => whnf)) | (apply load_at; (conv => lhs; rw [add_plain, add_plain]); (with_reducible assumption); rfl; (conv => whnf)) | (apply loads_at; (conv => lhs; whnf); (with_reducible assumption); rfl; (conv => whnf)) | (refine ⟨⟨by omega, by omega⟩, ?_⟩; (conv => whnf))))
      refine append_mine tab_ok (m := 1) (ys := rowS pcC [(⟨p, l, A7, c7⟩ : PcR)]) (y := .slice (some ⟨g, 0, none⟩) 1 1) rfl rfl rfl rfl rfl ⟨_, rfl, fun k h => by cases h⟩ ⟨_, rfl, rfl⟩ (by decide) hM8 ⟨rfl, .inl ⟨_, _, rfl, row_blk hB_g8⟩⟩ (pc_one _) (by show 2 * (j + 1) * 32 ≤ _; omega) fun s10 F10 hM10 _ => ?_
      have E10 := hE_g.trans hM10.ext
      (conv => whnf)
      refine ⟨hGG E10, ?_⟩
      ((conv => whnf); repeat (first | (apply load_at; (conv => lhs; whnf); (with_reducible assumption); rfl; (conv => whnf)) | (apply load_at; (conv => lhs; rw [add_plain, add_plain]); (with_reducible assumption); rfl; (conv => whnf)) | (apply loads_at; (conv => lhs; whnf); (with_reducible assumption); rfl; (conv => whnf)) | (refine ⟨⟨by omega, by omega⟩, ?_⟩; (conv => whnf))))
      refine append_mine tab_ok rfl rfl ?hq2 rfl rfl ⟨_, rfl, fun k h => by cases h⟩ ⟨_, rfl, rfl⟩ (by decide) hM10 (m := ps.length - j) (ys := rowS pcC (ps.drop j)) (y := .slice (if c = j then A else A.map (·.add (j * 2))) (ps.length - j) (c - j)) ⟨by rw [rowS_len pcC_len, List.length_drop], .inl ⟨_, _, rfl, hcut2 _ E10⟩⟩ (pcs_one _) (by show 2 * (j + 1 + (ps.length - j)) * 32 ≤ _; omega) fun s17 F17 hM17 _ => ?_
      case hq2 => rfl
      have E17 := hE_g.trans hM17.ext
      (conv => whnf)
      obtain ⟨A17, c17, rfl, hc17, hr17⟩ := hM17.own.row
      have hO17 : Own F17 (.slice A17 (ps.take j ++ ⟨p, l, A7, c7⟩ :: ps.drop j).length c17) 75 2 (ps.take j ++ ⟨p, l, A7, c7⟩ :: ps.drop j).length (rowS pcC (ps.take j ++ ⟨p, l, A7, c7⟩ :: ps.drop j)) := by
        rw [hln10, hrow10, ← List.append_assoc]
        exact hM17.own
      have hbe : blk (.slice A17 (ps.take j ++ (⟨p, l, A7, c7⟩ : PcR) :: ps.drop j).length c17) = blk (.slice A17 (j + 1 + (ps.length - j)) c17) := by rw [hln10]
      obtain ⟨T1, T2⟩ := hP.other hE (hM7.ext.trans E17) (ps' := ps.take j ++ ⟨p, l, A7, c7⟩ :: ps.drop j) hO17 (fun k hk => hM7.ext.none (hnew (S' := .slice A17 (j + 1 + (ps.length - j)) c17) k (hbe.symm.trans hk) hM17.fresh)) (fun x hx => by
        rcases List.mem_append.1 hx with hx | hx
        · exact (hP.ok x (List.mem_of_mem_take hx)).mono (gain_ext (hP.base.trans hE))
        · rcases List.mem_cons.1 hx with rfl | hx
          · exact ⟨rowAt_gain (restT_row (hr7.mono E17) fun a ha e => hA7 a ha (hnew (S' := .slice A17 (j + 1 + (ps.length - j)) c17) a.block (hbe.symm.trans e) hM17.fresh)) f7, by show l.length ≤ 900000; omega⟩
          · exact (hP.ok x (List.mem_of_mem_drop hx)).mono (gain_ext (hP.base.trans hE)))
      rw [hln10] at T1 T2
      ((conv => whnf); repeat (first | (apply load_at; (conv => lhs; whnf); (with_reducible assumption); rfl; (conv => whnf)) | (apply load_at; (conv => lhs; rw [add_plain, add_plain]); (with_reducible assumption); rfl; (conv => whnf)) | (apply loads_at; (conv => lhs; whnf); (with_reducible assumption); rfl; (conv => whnf)) | (refine ⟨⟨by omega, by omega⟩, ?_⟩; (conv => whnf))))
      refine store_step xb 1 _ #[.pointer (some ⟨lb, 0, none⟩), .slice A17 (j + 1 + (ps.length - j)) c17] rfl (E17 _ _ (hM7.ext _ _ hc)) rfl rfl (.inl (Nat.le_refl 0)) (one_slice _ _ _) ?_
      ((conv => whnf); repeat (first | (apply load_at; (conv => lhs; whnf); (with_reducible assumption); rfl; (conv => whnf)) | (apply load_at; (conv => lhs; rw [add_plain, add_plain]); (with_reducible assumption); rfl; (conv => whnf)) | (apply loads_at; (conv => lhs; whnf); (with_reducible assumption); rfl; (conv => whnf)) | (refine ⟨⟨by omega, by omega⟩, ?_⟩; (conv => whnf))))
      exact ⟨rfl, _, T1, hsr, hok, by omega, lb, b, _, L, _, _, by rw [hpS]; exact T2⟩
end Go.Proofs.YtmpiggcooboenaaGreatDoor.Al
/- The library's sort of numbers: laid at this program; its contract over what is known of memory. -/
namespace Go.Proofs.YtmpiggcooboenaaGreatDoor.Al
open Go Go.Al Go.Proofs Go.RowKit Go.Sort
set_option maxHeartbeats 8000000
set_option maxRecDepth 100000
set_option linter.unusedVariables false
set_option linter.unusedSimpArgs false
def sortRen : Go.Shelf.Ren := ⟨fun x => match x with | 189 => 35 | 125 => 59 | 128 => 98 | 129 => 99 | 215 => 116 | 216 => 95 | 257 => 58 | 294 => 89 | 295 => 90 | 296 => 91 | 297 => 92 | 298 => 93 | 299 => 94 | 300 => 96 | 301 => 97 | 328 => 111 | 329 => 112 | 330 => 113 | 331 => 114 | 332 => 115 | 343 => 119 | n => n, fun x => match x with | 28 => 39 | 3 => 3 | 46 => 104 | 0 => 0 | 51 => 126 | 53 => 131 | 4 => 4 | 183 => 142 | 182 => 141 | 131 => 111 | 5 => 5 | 9 => 9 | 218 => 152 | 222 => 156 | 228 => 159 | 229 => 160 | n => n, fun n => n⟩
theorem sortLays : Lays.n189 Tryz.prog sortRen where
  mixed := by kernel_rfl
  f125 := Tryz.func59.trans (congrArg some (by kernel_rfl))
  f128 := Tryz.func98.trans (congrArg some (by kernel_rfl))
  f129 := Tryz.func99.trans (congrArg some (by kernel_rfl))
  f189 := Tryz.func35.trans (congrArg some (by kernel_rfl))
  f215 := Tryz.func116.trans (congrArg some (by kernel_rfl))
  f216 := Tryz.func95.trans (congrArg some (by kernel_rfl))
  f257 := Tryz.func58.trans (congrArg some (by kernel_rfl))
  f294 := Tryz.func89.trans (congrArg some (by kernel_rfl))
  f295 := Tryz.func90.trans (congrArg some (by kernel_rfl))
  f296 := Tryz.func91.trans (congrArg some (by kernel_rfl))
  f297 := Tryz.func92.trans (congrArg some (by kernel_rfl))
  f298 := Tryz.func93.trans (congrArg some (by kernel_rfl))
  f299 := Tryz.func94.trans (congrArg some (by kernel_rfl))
  f300 := Tryz.func96.trans (congrArg some (by kernel_rfl))
  f301 := Tryz.func97.trans (congrArg some (by kernel_rfl))
  f328 := Tryz.func111.trans (congrArg some (by kernel_rfl))
  f329 := Tryz.func112.trans (congrArg some (by kernel_rfl))
  f330 := Tryz.func113.trans (congrArg some (by kernel_rfl))
  f331 := Tryz.func114.trans (congrArg some (by kernel_rfl))
  f332 := Tryz.func115.trans (congrArg some (by kernel_rfl))
  f343 := Tryz.func119.trans (congrArg some (by kernel_rfl))
  t0 := Tryz.underlying0
  a0 := Tryz.isAgg0
  z0 := Tryz.sizeOf0
  v0 := Tryz.zeroValue0
  t3 := Tryz.underlying3
  a3 := Tryz.isAgg3
  z3 := Tryz.sizeOf3
  v3 := Tryz.zeroValue3
  t4 := Tryz.underlying4
  a4 := Tryz.isAgg4
  z4 := Tryz.sizeOf4
  v4 := Tryz.zeroValue4
  t5 := Tryz.underlying5
  a5 := Tryz.isAgg5
  z5 := Tryz.sizeOf5
  v5 := Tryz.zeroValue5
  t9 := Tryz.underlying9
  a9 := Tryz.isAgg9
  z9 := Tryz.sizeOf9
  v9 := Tryz.zeroValue9
  t28 := Tryz.underlying39
  a28 := Tryz.isAgg39
  z28 := Tryz.sizeOf39
  v28 := Tryz.zeroValue39
  t46 := Tryz.underlying104
  a46 := Tryz.isAgg104
  z46 := Tryz.sizeOf104
  v46 := Tryz.zeroValue104
  t51 := Tryz.underlying126
  a51 := Tryz.isAgg126
  z51 := Tryz.sizeOf126
  v51 := Tryz.zeroValue126
  t53 := Tryz.underlying131
  a53 := Tryz.isAgg131
  z53 := Tryz.sizeOf131
  v53 := Tryz.zeroValue131
  t131 := Tryz.underlying111
  a131 := Tryz.isAgg111
  z131 := Tryz.sizeOf111
  v131 := Tryz.zeroValue111
  t182 := Tryz.underlying141
  a182 := Tryz.isAgg141
  z182 := Tryz.sizeOf141
  v182 := Tryz.zeroValue141
  t183 := Tryz.underlying142
  a183 := Tryz.isAgg142
  z183 := Tryz.sizeOf142
  v183 := Tryz.zeroValue142
  t218 := Tryz.underlying152
  a218 := Tryz.isAgg152
  z218 := Tryz.sizeOf152
  v218 := Tryz.zeroValue152
  t222 := Tryz.underlying156
  a222 := Tryz.isAgg156
  z222 := Tryz.sizeOf156
  v222 := Tryz.zeroValue156
  t228 := Tryz.underlying159
  a228 := Tryz.isAgg159
  z228 := Tryz.sizeOf159
  v228 := Tryz.zeroValue159
  t229 := Tryz.underlying160
  a229 := Tryz.isAgg160
  z229 := Tryz.sizeOf160
  v229 := Tryz.zeroValue160
theorem mem_holds {F : Heap} {w : World} (hw : Has F w) {g : Nat} {cs : Array Value} {e : TypeId} {fz : Nat × Nat} {l : List Int} (hb : F g = some (.cells cs e fz)) (hf : fz.2 ≤ fz.1 ∨ cs.size ≤ fz.1) (hs : l.length ≤ cs.size) (ht : cs.toList.take l.length = l.map (.int .i64)) : Sort.Holds (Value.int .i64) w g 0 l.toArray := by
  intro j hj
  have hj' : j < l.length := by simpa using hj
  have hw' := hw _ _ hb
  refine ⟨?_, ?_⟩
  · have h1 : (cs.toList.take l.length)[j]? = (l.map (Value.int .i64))[j]? := by rw [ht]
    rw [List.getElem?_take_of_lt hj'] at h1
    simp only [World.cell?, hw', Nat.zero_add]
    simp only [Option.isSome_none, Bool.false_eq_true, if_false]
    rw [← Array.getElem?_toList, h1]
    simp [hj']
  · simp only [World.frozen?, hw', Nat.zero_add]
    rw [Bool.and_eq_false_iff, decide_eq_false_iff_not, decide_eq_false_iff_not]
    omega
theorem lenK (x : Int) (h0 : 0 ≤ x) (h1 : x ≤ 18446744073709551615) (F : Heap) : FnK Tryz.prog 59 #[.int .u64 x] F (fun v F' => (∃ n : Int, v = .int .i64 n) ∧ F' = F) :=
  ⟨⟨_, Tryz.func59, rfl, rfl⟩, fun w hw => (calls_of_every_depth fun D => AnyS.bits_LenIn { sortLays with } D x w h0 h1).mono fun e w' h => ⟨_, F, h.1, by rw [h.2]; exact hw, by rw [h.2]; exact Rest.refl w, ⟨_, rfl⟩, rfl⟩⟩
theorem insNil (F : Heap) : FnK Tryz.prog 89 #[.slice none 0 0, .int .i64 0, .int .i64 0] F (fun v F' => v = .tuple #[] ∧ F' = F) := by
  (refine fn_walk tab_ok Tryz.func89 rfl rfl rfl rfl ?_; (conv => whnf))
  refine loop_slots [2, 6] (fun k vs F' => vs = [.int .i64 0, .int .i64 1] ∧ F' = F) 0 ⟨rfl, rfl⟩ ?_
  rintro k vs F1 ρ ⟨rfl, rfl⟩
  ((conv => whnf); repeat (first | (apply load_at; (conv => lhs; whnf); (with_reducible assumption); rfl; (conv => whnf)) | (apply load_at; (conv => lhs; rw [add_plain, add_plain]); (with_reducible assumption); rfl; (conv => whnf)) | (apply loads_at; (conv => lhs; whnf); (with_reducible assumption); rfl; (conv => whnf)) | (refine ⟨⟨by omega, by omega⟩, ?_⟩; (conv => whnf))))
  exact ⟨rfl, rfl⟩
theorem pdqNil (n : Int) (F : Heap) : FnK Tryz.prog 58 #[.slice none 0 0, .int .i64 0, .int .i64 0, .int .i64 n] F (fun v F' => v = .tuple #[] ∧ F' = F) := by
  have h := insNil F
  (refine fn_walk tab_ok Tryz.func58 rfl rfl rfl rfl ?_; (conv => whnf))
  refine loop_slots [0, 1, 2] (fun k vs F' => vs = [.slice none 0 0, .int .i64 0, .int .i64 0] ∧ F' = F) 0 ⟨rfl, rfl⟩ ?_
  rintro k vs F1 ρ ⟨rfl, rfl⟩
  ((conv => whnf); repeat (first | (apply load_at; (conv => lhs; whnf); (with_reducible assumption); rfl; (conv => whnf)) | (apply load_at; (conv => lhs; rw [add_plain, add_plain]); (with_reducible assumption); rfl; (conv => whnf)) | (apply loads_at; (conv => lhs; whnf); (with_reducible assumption); rfl; (conv => whnf)) | (refine ⟨⟨by omega, by omega⟩, ?_⟩; (conv => whnf))))
  refine call_of h ?_
  rintro v F2 ⟨rfl, rfl⟩
  ((conv => whnf); repeat (first | (apply load_at; (conv => lhs; whnf); (with_reducible assumption); rfl; (conv => whnf)) | (apply load_at; (conv => lhs; rw [add_plain, add_plain]); (with_reducible assumption); rfl; (conv => whnf)) | (apply loads_at; (conv => lhs; whnf); (with_reducible assumption); rfl; (conv => whnf)) | (refine ⟨⟨by omega, by omega⟩, ?_⟩; (conv => whnf))))
  exact ⟨rfl, rfl⟩
/-- The library's sort of numbers, over what is known of memory. -/
theorem sortI {F0 F : Heap} {S : Value} (l : List Int) (hM : Mine F0 F S 3 1 l.length (l.map (.int .i64))) (hl : l.length ≤ 1000000) :
    FnK Tryz.prog 35 #[S] F (fun v F' => v = .tuple #[] ∧ Mine F0 F' S 3 1 l.length ((l.mergeSort fun x y => decide (x ≤ y)).map (.int .i64)) ∧ Keeps F F' (blk S)) := by
  obtain ⟨hlen, h2⟩ := hM.own
  rcases h2 with ⟨rfl, h0⟩ | ⟨g, c, cs, rfl, ⟨fz, hb, hf⟩, hsz, hnc, ht⟩
  · have e : l = [] := List.length_eq_zero_iff.1 h0
    subst e
    have k1 := lenK 0 (by decide) (by decide) F
    have k2 := fun n => pdqNil n F
    (refine fn_walk tab_ok Tryz.func35 rfl rfl rfl rfl ?_; (conv => whnf))
    refine call_of k1 ?_
    rintro v F ⟨⟨n, rfl⟩, rfl⟩
    ((conv => whnf); repeat (first | (apply load_at; (conv => lhs; whnf); (with_reducible assumption); rfl; (conv => whnf)) | (apply load_at; (conv => lhs; rw [add_plain, add_plain]); (with_reducible assumption); rfl; (conv => whnf)) | (apply loads_at; (conv => lhs; whnf); (with_reducible assumption); rfl; (conv => whnf)) | (refine ⟨⟨by omega, by omega⟩, ?_⟩; (conv => whnf))))
    refine call_of (k2 n) ?_
    rintro v F ⟨rfl, rfl⟩
    ((conv => whnf); repeat (first | (apply load_at; (conv => lhs; whnf); (with_reducible assumption); rfl; (conv => whnf)) | (apply load_at; (conv => lhs; rw [add_plain, add_plain]); (with_reducible assumption); rfl; (conv => whnf)) | (apply loads_at; (conv => lhs; whnf); (with_reducible assumption); rfl; (conv => whnf)) | (refine ⟨⟨by omega, by omega⟩, ?_⟩; (conv => whnf))))
    exact ⟨rfl, by rw [List.mergeSort_nil]; exact hM, fun b o h _ => h⟩
  · rw [Nat.mul_one] at hsz ht
    refine ⟨⟨_, Tryz.func35, rfl, rfl⟩, fun w hw => ?_⟩
    have hwb := hw _ _ hb
    have hg : g < w.heap.size := hw.lt hb
    refine (Any.slices_Sort_int sortLays g 0 c l w (mem_holds hw hb hf (by omega) ht) hg (by omega)).mono ?_
    rintro e w' ⟨rfl, n, os, rfl⟩
    have hts : (l.mergeSort fun x y => decide (x ≤ y)).length = l.length := List.length_mergeSort _
    generalize l.mergeSort (fun x y => decide (x ≤ y)) = ts at hts ⊢
    have h1 := heap_sortedI (w := w) (n := n) (os := os) ts.toArray hwb
    obtain ⟨_, _, _, _, h2⟩ := grownBy_sortedI (w := w) (g := g) (n := n) (os := os) ts.toArray
    have hcs : (putCells (Value.int .i64) 0 ts.toArray cs).size = cs.size := by simp [putCells]
    have htk := take_putCellsI cs ts (by omega)
    generalize putCells (Value.int .i64) 0 ts.toArray cs = cs' at h1 hcs htk
    have hkeep : ∀ k, k < w.heap.size → g ≠ k → (Sort.grow (Sort.putRow (Value.int .i64) (Sort.ahead w n) g 0 ts.toArray) os).heap[k]? = w.heap[k]? := fun k hk hne => h2 k hk (fun e => hne (Option.some.inj e).symm)
    refine ⟨_, F.put g (.cells cs' 3 fz), rfl, fun b o hbo => ?_, ⟨rfl, rfl, rfl, by simp [Sort.grow, Sort.putRow, Sort.mapBlock, Sort.ahead], fun k hk => ?_⟩, rfl, ⟨⟨by rw [List.length_map, hts, Nat.mul_one], .inr ⟨g, c, cs', rfl, ⟨fz, Heap.put_same _ _ _, by rw [hcs]; exact hf⟩, by rw [hcs, hsz, Nat.mul_one], hnc, by rw [Nat.mul_one, ← hts]; exact htk⟩⟩, hM.fresh, fun b o hbo => ?_⟩, fun b o hbo hne => ?_⟩
    · by_cases e : b = g
      · subst e
        rw [Heap.put_same] at hbo
        rw [h1]; exact hbo
      · rw [Heap.put_other _ _ e] at hbo
        rw [hkeep b (hw.lt hbo) (Ne.symm e)]
        exact hw _ _ hbo
    · have hlt := (Array.getElem?_eq_some_iff.1 hk).1
      rw [hkeep k hlt (fun e => by subst e; rw [hwb] at hk; cases hk)]
      exact hk
    · rw [Heap.put_other _ _ (fun e => by subst e; rw [hM.fresh b rfl] at hbo; cases hbo)]
      exact hM.ext _ _ hbo
    · rw [Heap.put_other _ _ (fun e => hne (by rw [e]; rfl))]
      exact hbo
end Go.Proofs.YtmpiggcooboenaaGreatDoor.Al
/- Pagers: Abort, Changed, over what is known of memory. -/
namespace Go.Proofs.YtmpiggcooboenaaGreatDoor.Al
open Go Go.Al Go.Proofs Go.RowKit
set_option maxHeartbeats 8000000
set_option maxRecDepth 100000
set_option linter.unusedVariables false
set_option linter.unusedSimpArgs false
theorem nodup_sub : ∀ {a b : List Nat}, a.Nodup → (∀ x ∈ a, x ∈ b) → a.length ≤ b.length
  | [], b, _, _ => Nat.zero_le _
  | x :: a, b, h, hs => by
    rw [List.nodup_cons] at h
    have hx := hs x List.mem_cons_self
    have ih := nodup_sub (b := b.erase x) h.2 fun y hy => (List.mem_erase_of_ne (fun e => h.1 (by rw [← e]; exact hy))).2 (hs y (List.mem_cons_of_mem _ hy))
    rw [List.length_erase_of_mem hx] at ih
    have : 0 < b.length := List.length_pos_of_mem hx
    rw [List.length_cons]
    omega
/-- What a range has met. -/
def SeenW (es : List MapEntry) (seen : List Nat) (ks : List Int) : Prop := ∃ vs : List MapEntry, vs.map (·.born) = seen ∧ vs.map (·.key) = ks.map (.int .i64) ∧ (∀ e ∈ vs, e ∈ es) ∧ seen.Nodup
theorem SeenW.nil (es : List MapEntry) : SeenW es [] [] := ⟨[], rfl, rfl, (fun e h => by cases h), List.nodup_nil⟩
theorem SeenW.len {es : List MapEntry} {seen : List Nat} {ks : List Int} (h : SeenW es seen ks) : ks.length ≤ es.length := by
  obtain ⟨vs, h1, h2, h3, h4⟩ := h
  have e1 := congrArg List.length h2
  rw [List.length_map, List.length_map] at e1
  have e2 := congrArg List.length h1
  rw [List.length_map] at e2
  have := nodup_sub (b := es.map (·.born)) h4 (by
    rw [← h1]
    intro x hx
    obtain ⟨e, he, rfl⟩ := List.mem_map.1 hx
    exact List.mem_map_of_mem (h3 e he))
  rw [List.length_map] at this
  omega
theorem SeenW.push {es : List MapEntry} {seen : List Nat} {ks : List Int} (h : SeenW es seen ks) {e : MapEntry} (he : e ∈ es) (hn : e.born ∉ seen) {k : Int} (hk : e.key = .int .i64 k) : SeenW es (seen ++ [e.born]) (ks ++ [k]) := by
  obtain ⟨vs, h1, h2, h3, h4⟩ := h
  refine ⟨vs ++ [e], by rw [List.map_append, h1]; rfl, by rw [List.map_append, List.map_append, h2, List.map_cons, List.map_cons, hk]; rfl, fun x hx => ?_, ?_⟩
  · rcases List.mem_append.1 hx with hx | hx
    · exact h3 x hx
    · rw [List.mem_singleton.1 hx]; exact he
  · rw [List.nodup_append]
    refine ⟨h4, List.nodup_cons.2 ⟨List.not_mem_nil, List.nodup_nil⟩, fun a ha b hb e2 => ?_⟩
    rw [List.mem_singleton] at hb
    exact hn (by rw [← hb, ← e2]; exact ha)
def unI : Value → Int
  | .int _ n => n
  | _ => 0
theorem unI_map (l : List Int) : (l.map (Value.int .i64)).map unI = l := by
  rw [List.map_map]
  conv => rhs; rw [← List.map_id l]
  rfl
theorem born_inj {es : List MapEntry} (h : (es.map (·.born)).Nodup) {a b : MapEntry} (ha : a ∈ es) (hb : b ∈ es) (e : a.born = b.born) : a = b := by
  have h1 := Go.Al.find_born h ha
  have h2 := Go.Al.find_born h hb
  rw [e, h2] at h1
  exact (Option.some.inj h1).symm
theorem SeenW.all {es : List MapEntry} {seen : List Nat} {ks : List Int} {l : ML} (h : SeenW es seen ks) (hw : (es.map (·.born)).Nodup) (hl : mapL es l) (ha : ∀ e ∈ es, e.born ∈ seen) : ks.Perm (l.map (·.1)) := by
  obtain ⟨vs, h1, h2, h3, h4⟩ := h
  have n1 : es.Nodup := List.Pairwise.of_map (·.born) (fun a b h e => h (congrArg _ e)) hw
  have n2 : vs.Nodup := List.Pairwise.of_map (·.born) (fun a b h e => h (congrArg _ e)) (by rw [h1]; exact h4 : (vs.map (·.born)).Nodup)
  have hp : vs.Perm es := (List.perm_ext_iff_of_nodup n2 n1).2 fun e => ⟨h3 e, fun he => by
    have := ha e he
    rw [← h1] at this
    obtain ⟨v, hv, e2⟩ := List.mem_map.1 this
    rw [← born_inj hw (h3 v hv) he e2]
    exact hv⟩
  have e1 : es.map (·.key) = (l.map (·.1)).map (.int .i64) := by
    have := congrArg (List.map (fun p : Value × Value => p.1)) hl
    rw [List.map_map, List.map_map] at this
    rw [List.map_map]
    exact this
  have hp2 := (hp.map (·.key)).map unI
  rw [h2, e1, unI_map, unI_map] at hp2
  exact hp2
theorem mapL_key {es : List MapEntry} {l : ML} (h : mapL es l) {e : MapEntry} (he : e ∈ es) : ∃ k, e.key = .int .i64 k := by
  have h1 : (e.key, e.val) ∈ es.map (fun e => (e.key, e.val)) := List.mem_map_of_mem he
  have h : es.map (fun e => (e.key, e.val)) = l.map (fun p => (Value.int .i64 p.1, p.2)) := h
  rw [h] at h1
  obtain ⟨p, _, e2⟩ := List.mem_map.1 h1
  exact ⟨p.1, (congrArg Prod.fst e2).symm⟩
theorem pgAbort {D F : Heap} {pb : Nat} {s : DS} {q : Int} {S : PgL} (hE : Ext D F) (hD : Pg D pb s q S) : FnK Tryz.prog 11 #[.pointer (some ⟨pb, 0, none⟩)] F (fun v F' => v = .tuple #[] ∧ ∃ D', Moves D F D' F' ∧ Pg D' pb s q []) := by
  obtain ⟨hs, ho, lb, b, ms, L, lS, G, hP⟩ := hD
  have hc := hE _ _ hP.cell
  have k0 := pgReady hc
  (refine fn_walk tab_ok Tryz.func11 rfl rfl rfl rfl ?_; (conv => whnf))
  refine call_of k0 ?_
  rintro v F ⟨rfl, rfl⟩
  ((conv => whnf); repeat (first | (apply load_at; (conv => lhs; whnf); (with_reducible assumption); rfl; (conv => whnf)) | (apply load_at; (conv => lhs; rw [add_plain, add_plain]); (with_reducible assumption); rfl; (conv => whnf)) | (apply loads_at; (conv => lhs; whnf); (with_reducible assumption); rfl; (conv => whnf)) | (refine ⟨⟨by omega, by omega⟩, ?_⟩; (conv => whnf))))
  refine op_clearW tab_ok rfl rfl rfl (hP.map.mono hE).at_ fun o' h1 h2 => ?_
  obtain ⟨M1, P1⟩ := hP.clear hE h1 h2
  generalize F.put ms o' = F1 at M1 ⊢
  ((conv => whnf); repeat (first | (apply load_at; (conv => lhs; whnf); (with_reducible assumption); rfl; (conv => whnf)) | (apply load_at; (conv => lhs; rw [add_plain, add_plain]); (with_reducible assumption); rfl; (conv => whnf)) | (apply loads_at; (conv => lhs; whnf); (with_reducible assumption); rfl; (conv => whnf)) | (refine ⟨⟨by omega, by omega⟩, ?_⟩; (conv => whnf))))
  exact ⟨rfl, _, M1, List.Pairwise.nil, (fun x h => by cases h), lb, b, ms, L, [], G, P1⟩
theorem pgChanged {D F : Heap} {pb : Nat} {s : DS} {q : Int} {S : PgL} (hE : Ext D F) (hD : Pg D pb s q S) (hl : S.length ≤ 100000) : FnK Tryz.prog 14 #[.pointer (some ⟨pb, 0, none⟩)] F (fun v F' => Mine F F' v 3 1 S.length ((S.map (·.1)).map (.int .i64))) := by
  obtain ⟨hs, ho, lb, b, ms, L, lS, G, hP⟩ := hD
  have hc := hE _ _ hP.cell
  have k0 := pgReady hc
  obtain ⟨es, cl, hm, hmL, hw⟩ := (hP.map.mono hE).open
  have hsort := fun ks h => keys_sort (ks := ks) hP.rs hP.nd hs h
  have hel : es.toList.length = lS.length := by
    have := congrArg List.length hmL
    rwa [List.length_map, List.length_map] at this
  have hSl : lS.length = S.length := by
    have := congrArg List.length (hsort _ (List.Perm.refl _))
    rwa [List.length_mergeSort, List.length_map, List.length_map] at this
  (refine fn_walk tab_ok Tryz.func14 rfl rfl rfl rfl ?_; (conv => whnf))
  refine call_of k0 ?_
  rintro v F ⟨rfl, rfl⟩
  ((conv => whnf); repeat (first | (apply load_at; (conv => lhs; whnf); (with_reducible assumption); rfl; (conv => whnf)) | (apply load_at; (conv => lhs; rw [add_plain, add_plain]); (with_reducible assumption); rfl; (conv => whnf)) | (apply loads_at; (conv => lhs; whnf); (with_reducible assumption); rfl; (conv => whnf)) | (refine ⟨⟨by omega, by omega⟩, ?_⟩; (conv => whnf))))
  refine op_range tab_ok rfl rfl rfl hm fun r h0 => ?_
  have hE1 := Ext.new h0 (.mapIter (some ms) cl #[] cl)
  have hB1 := Heap.put_same F r (.mapIter (some ms) cl #[] cl)
  generalize F.put r _ = F1 at hE1 hB1 ⊢
  ((conv => whnf); repeat (first | (apply load_at; (conv => lhs; whnf); (with_reducible assumption); rfl; (conv => whnf)) | (apply load_at; (conv => lhs; rw [add_plain, add_plain]); (with_reducible assumption); rfl; (conv => whnf)) | (apply loads_at; (conv => lhs; whnf); (with_reducible assumption); rfl; (conv => whnf)) | (refine ⟨⟨by omega, by omega⟩, ?_⟩; (conv => whnf))))
  refine loop_slots [3, 12] (fun k vs F' => ∃ (T : Value) (seen : Array Nat) (ks : List Int), k + ks.length = es.toList.length ∧ vs = [T, .pointer (some ⟨r, 0, none⟩)] ∧ F' r = some (.mapIter (some ms) cl seen cl) ∧ Mine F F' T 3 1 ks.length (ks.map (.int .i64)) ∧ blk T ≠ some r ∧ SeenW es.toList seen.toList ks) es.toList.length ⟨.slice none 0 0, #[], [], by simp, rfl, hB1, Mine.nil _ _ _ _ hE1, (by intro e; cases e), SeenW.nil _⟩ ?_
  rintro k vs F2 ρ ⟨T, seen, ks, hk, rfl, hR, hM, hne, hS⟩
  have hm2 := hM.ext _ _ hm
  ((conv => whnf); repeat (first | (apply load_at; (conv => lhs; whnf); (with_reducible assumption); rfl; (conv => whnf)) | (apply load_at; (conv => lhs; rw [add_plain, add_plain]); (with_reducible assumption); rfl; (conv => whnf)) | (apply loads_at; (conv => lhs; whnf); (with_reducible assumption); rfl; (conv => whnf)) | (refine ⟨⟨by omega, by omega⟩, ?_⟩; (conv => whnf))))
  refine op_next rfl rfl hR hm2 hw.2 (fun hall => ?_) fun e he hn => ?_
  · have hp := hS.all hw.1 hmL hall
    have hfin := hsort ks hp
    have hkl : ks.length = S.length := by
      have := congrArg List.length hfin
      rwa [List.length_mergeSort, List.length_map] at this
    have k5 := sortI ks hM (by omega)
    rw [hfin, hkl] at k5
    ((conv => whnf); repeat (first | (apply load_at; (conv => lhs; whnf); (with_reducible assumption); rfl; (conv => whnf)) | (apply load_at; (conv => lhs; rw [add_plain, add_plain]); (with_reducible assumption); rfl; (conv => whnf)) | (apply loads_at; (conv => lhs; whnf); (with_reducible assumption); rfl; (conv => whnf)) | (refine ⟨⟨by omega, by omega⟩, ?_⟩; (conv => whnf))))
    refine call_of k5 ?_
    rintro v F3 ⟨rfl, hM3, _⟩
    ((conv => whnf); repeat (first | (apply load_at; (conv => lhs; whnf); (with_reducible assumption); rfl; (conv => whnf)) | (apply load_at; (conv => lhs; rw [add_plain, add_plain]); (with_reducible assumption); rfl; (conv => whnf)) | (apply loads_at; (conv => lhs; whnf); (with_reducible assumption); rfl; (conv => whnf)) | (refine ⟨⟨by omega, by omega⟩, ?_⟩; (conv => whnf))))
    exact hM3
  · obtain ⟨kk, hkk⟩ := mapL_key hmL he
    have hS2 := hS.push he hn hkk
    have hsl := hS2.len
    rw [List.length_append, List.length_singleton] at hsl
    have hR2 := Heap.put_same F2 r (.mapIter (some ms) cl (seen.push e.born) cl)
    have hF2r : F r = none := h0
    have hM2 : Mine F (F2.put r (.mapIter (some ms) cl (seen.push e.born) cl)) T 3 1 ks.length (ks.map (.int .i64)) := ⟨hM.own.put hne, hM.fresh, hM.ext.put hF2r _⟩
    generalize F2.put r _ = F3 at hR2 hM2 ⊢
    have hm3 := hM2.ext _ _ hm
    rw [hkk]
    ((conv => whnf); repeat (first | (apply load_at; (conv => lhs; whnf); (with_reducible assumption); rfl; (conv => whnf)) | (apply load_at; (conv => lhs; rw [add_plain, add_plain]); (with_reducible assumption); rfl; (conv => whnf)) | (apply loads_at; (conv => lhs; whnf); (with_reducible assumption); rfl; (conv => whnf)) | (refine ⟨⟨by omega, by omega⟩, ?_⟩; (conv => whnf))))
    refine op_entry rfl rfl hR2 hm3 hw he ?_
    rw [hkk]
    ((conv => whnf); repeat (first | (apply load_at; (conv => lhs; whnf); (with_reducible assumption); rfl; (conv => whnf)) | (apply load_at; (conv => lhs; rw [add_plain, add_plain]); (with_reducible assumption); rfl; (conv => whnf)) | (apply loads_at; (conv => lhs; whnf); (with_reducible assumption); rfl; (conv => whnf)) | (refine ⟨⟨by omega, by omega⟩, ?_⟩; (conv => whnf))))
    refine new_step (.cells #[.int .i64 kk] 3) rfl fun g h0_g => ?_
    have hE_g := Ext.new h0_g (.cells #[.int .i64 kk] 3)
    have hB_g := Heap.put_same F3 g (.cells #[.int .i64 kk] 3)
    generalize F3.put g _ = F4 at hE_g hB_g ⊢
    have hM4 := hM2.mono hE_g
    have hrow := row_blk hB_g
    rw [List.toList_toArray] at hrow
    have hR4 := hE_g _ _ hR2
    ((conv => whnf); repeat (first | (apply load_at; (conv => lhs; whnf); (with_reducible assumption); rfl; (conv => whnf)) | (apply load_at; (conv => lhs; rw [add_plain, add_plain]); (with_reducible assumption); rfl; (conv => whnf)) | (apply loads_at; (conv => lhs; whnf); (with_reducible assumption); rfl; (conv => whnf)) | (refine ⟨⟨by omega, by omega⟩, ?_⟩; (conv => whnf))))
    refine append_own tab_ok (s := T) (n := ks.length) (xs := ks.map (.int .i64)) (m := 1) (ys := [.int .i64 kk]) (y := .slice (some ⟨g, 0, none⟩) 1 1) rfl rfl rfl rfl rfl ⟨_, rfl, fun k h => by cases h⟩ ⟨_, rfl, rfl⟩ (by decide) hM4.own ⟨rfl, .inl ⟨_, _, rfl, hrow⟩⟩ (one_int _ _) (by show 2 * (ks.length + 1) * 8 ≤ _; omega) fun T2 F5 hO5 hk5 hf5 => ?_
    have hM5 : Mine F F5 T2 3 1 (ks ++ [kk]).length ((ks ++ [kk]).map (.int .i64)) := by
      rw [List.map_append, List.length_append]
      refine ⟨hO5, fun c hc => ?_, hk5.ext hM4.ext hM4.fresh⟩
      rcases hf5 c hc with h | h
      · exact hM4.fresh c h
      · exact hM4.ext.none h
    have hR5 := hk5 _ _ hR4 hne
    have hne5 : blk T2 ≠ some r := fun e2 => by
      rcases hf5 r e2 with h | h
      · exact hne h
      · rw [hR4] at h; cases h
    ((conv => whnf); repeat (first | (apply load_at; (conv => lhs; whnf); (with_reducible assumption); rfl; (conv => whnf)) | (apply load_at; (conv => lhs; rw [add_plain, add_plain]); (with_reducible assumption); rfl; (conv => whnf)) | (apply loads_at; (conv => lhs; whnf); (with_reducible assumption); rfl; (conv => whnf)) | (refine ⟨⟨by omega, by omega⟩, ?_⟩; (conv => whnf))))
    refine ⟨k - 1, by omega, T2, seen.push e.born, ks ++ [kk], by rw [List.length_append, List.length_singleton]; omega, rfl, hR5, hM5, hne5, by rw [Array.toList_push]; exact hS2⟩
end Go.Proofs.YtmpiggcooboenaaGreatDoor.Al
/- Pagers: images, Commit, over what is known of memory. -/
namespace Go.Proofs.YtmpiggcooboenaaGreatDoor.Al
open Go Go.Al Go.Proofs Go.RowKit
set_option maxHeartbeats 8000000
set_option maxRecDepth 100000
set_option linter.unusedVariables false
set_option linter.unusedSimpArgs false
theorem pgImages {D F : Heap} {pb : Nat} {s : DS} {q : Int} {S : PgL} (hE : Ext D F) (hD : SrtS S ∧ OkS s.size S) {lb b ms : Nat} {L : Heap} {lS : ML} {G : Heap} (hP : PgP D pb lb b ms L lS G s q S) (hl : S.length ≤ 100000) : FnK Tryz.prog 33 #[.pointer (some ⟨pb, 0, none⟩)] F (fun v F' => ∃ (ps : List PcR) (A : Option Addr) (c : Nat), v = .slice A ps.length c ∧ RowAt F' A (rowS pcC ps) ∧ (∀ a, A = some a → F a.block = none) ∧ (∀ p ∈ ps, PcOk G p) ∧ ps.map pcW = S ∧ Ext F F') := by
  have hc := hE _ _ hP.cell
  have kC := pgChanged hE ⟨hD.1, hD.2, lb, b, ms, L, lS, G, hP⟩ hl
  have hm := hP.map.at_.mono hE
  have hrs := hP.rs
  have hat : ∀ (i : Nat) (x : Int × List UInt8), S[i]? = some x → ∃ v, getM lS x.1 = some v ∧ x.2.length = 240 ∧ VRow G v x.2 := fun i x hx => by
    have h1 := lk_at S hD.1 i x hx
    cases hg : getM lS x.1 with
    | none => rw [hrs.no _ hg] at h1; cases h1
    | some v =>
      obtain ⟨l, h2, h3, h4⟩ := hrs.yes _ _ hg
      rw [h1] at h2
      cases h2
      exact ⟨v, rfl, h3, h4⟩
  have hex : ∀ i, (h : i < S.length) → S.take (i + 1) = S.take i ++ [S[i]] := fun i h => by rw [List.take_add_one, List.getElem?_eq_getElem h]; rfl
  (refine fn_walk tab_ok Tryz.func33 rfl rfl rfl rfl ?_; (conv => whnf))
  refine call_of kC ?_
  rintro v F1 hM1
  obtain ⟨A1, c1, rfl, hc1, hr1⟩ := hM1.own.row
  have hE1 := hM1.ext
  refine short [0, 3, 7] [.pointer (some ⟨pb, 0, none⟩), .slice none 0 0, .slice A1 S.length c1] rfl fun ρ => ?_
  ((conv => whnf); repeat (first | (apply load_at; (conv => lhs; whnf); (with_reducible assumption); rfl; (conv => whnf)) | (apply load_at; (conv => lhs; rw [add_plain, add_plain]); (with_reducible assumption); rfl; (conv => whnf)) | (apply loads_at; (conv => lhs; whnf); (with_reducible assumption); rfl; (conv => whnf)) | (refine ⟨⟨by omega, by omega⟩, ?_⟩; (conv => whnf))))
  refine loop_slots [0, 3, 7, 8, 9] (fun k vs F' => ∃ (i : Nat) (T : Value) (ps : List PcR), i + k = S.length ∧ ps.length = i ∧ vs = [.pointer (some ⟨pb, 0, none⟩), T, .slice A1 S.length c1, .int .i64 (S.length : Int), .int .i64 (i : Int)] ∧ Mine F1 F' T 75 2 ps.length (rowS pcC ps) ∧ (∀ p ∈ ps, PcOk G p) ∧ ps.map pcW = S.take i) S.length ⟨0, .slice none 0 0, [], by omega, rfl, rfl, Mine.nil _ _ _ _ (Ext.refl _), (fun p h => by cases h), rfl⟩ ?_
  rintro k vs F2 ρ ⟨i, T, ps, hik, hpi, rfl, hM, hok, hmap⟩
  ((conv => whnf); repeat (first | (apply load_at; (conv => lhs; whnf); (with_reducible assumption); rfl; (conv => whnf)) | (apply load_at; (conv => lhs; rw [add_plain, add_plain]); (with_reducible assumption); rfl; (conv => whnf)) | (apply loads_at; (conv => lhs; whnf); (with_reducible assumption); rfl; (conv => whnf)) | (refine ⟨⟨by omega, by omega⟩, ?_⟩; (conv => whnf))))
  refine cond_split (fun h => ?_) (fun h => ?_)
  · have hi : i < S.length := by
      have h : decide ((i : Int) < (S.length : Int)) = true := h
      have := of_decide_eq_true h
      omega
    have hst := hex i hi
    have hx : S[i]? = some S[i] := List.getElem?_eq_getElem hi
    obtain ⟨ad, rfl⟩ := hr1.some (by rw [List.length_map, List.length_map]; omega)
    have hcl := one_cell (j := i) (v := .int .i64 S[i].1) (hr1.mono hM.ext) (by rw [List.getElem?_map, List.getElem?_map, hx]; rfl)
    generalize S[i] = x at hst hx hcl
    obtain ⟨v, hg, hl2, B, bc, rfl, hbc, hbr⟩ := hat i x hx
    obtain ⟨pg, d⟩ := x
    dsimp only at hcl hg hl2 hbr hbc
    have hc2 := hM.ext _ _ (hE1 _ _ hc)
    have hm2 := (hm.mono hE1).mono hM.ext
    ((conv => whnf); repeat (first | (apply load_at; (conv => lhs; whnf); (with_reducible assumption); rfl; (conv => whnf)) | (apply load_at; (conv => lhs; rw [add_plain, add_plain]); (with_reducible assumption); rfl; (conv => whnf)) | (apply loads_at; (conv => lhs; whnf); (with_reducible assumption); rfl; (conv => whnf)) | (refine ⟨⟨by omega, by omega⟩, ?_⟩; (conv => whnf))))
    refine load_step hcl ?_
    ((conv => whnf); repeat (first | (apply load_at; (conv => lhs; whnf); (with_reducible assumption); rfl; (conv => whnf)) | (apply load_at; (conv => lhs; rw [add_plain, add_plain]); (with_reducible assumption); rfl; (conv => whnf)) | (apply loads_at; (conv => lhs; whnf); (with_reducible assumption); rfl; (conv => whnf)) | (refine ⟨⟨by omega, by omega⟩, ?_⟩; (conv => whnf))))
    refine op_lookup_at tab_ok rfl rfl rfl rfl rfl rfl rfl hm2 hg ?_
    ((conv => whnf); repeat (first | (apply load_at; (conv => lhs; whnf); (with_reducible assumption); rfl; (conv => whnf)) | (apply load_at; (conv => lhs; rw [add_plain, add_plain]); (with_reducible assumption); rfl; (conv => whnf)) | (apply loads_at; (conv => lhs; whnf); (with_reducible assumption); rfl; (conv => whnf)) | (refine ⟨⟨by omega, by omega⟩, ?_⟩; (conv => whnf))))
    refine new_step (.cells (rowS pcC [(⟨pg, d, B, bc⟩ : PcR)]).toArray 75) rfl fun g h0_g => ?_
    have hE_g := Ext.new h0_g (.cells (rowS pcC [(⟨pg, d, B, bc⟩ : PcR)]).toArray 75)
    have hB_g := Heap.put_same F2 g (.cells (rowS pcC [(⟨pg, d, B, bc⟩ : PcR)]).toArray 75)
    generalize F2.put g _ = F3 at hE_g hB_g ⊢
    have hM3 := hM.mono hE_g
    have hrow := row_blk hB_g
    rw [List.toList_toArray] at hrow
    ((conv => whnf); repeat (first | (apply load_at; (conv => lhs; whnf); (with_reducible assumption); rfl; (conv => whnf)) | (apply load_at; (conv => lhs; rw [add_plain, add_plain]); (with_reducible assumption); rfl; (conv => whnf)) | (apply loads_at; (conv => lhs; whnf); (with_reducible assumption); rfl; (conv => whnf)) | (refine ⟨⟨by omega, by omega⟩, ?_⟩; (conv => whnf))))
    refine append_own tab_ok (s := T) (n := ps.length) (xs := rowS pcC ps) (m := 1) (ys := rowS pcC [(⟨pg, d, B, bc⟩ : PcR)]) (y := .slice (some ⟨g, 0, none⟩) 1 1) rfl rfl rfl rfl rfl ⟨_, rfl, fun k h => by cases h⟩ ⟨_, rfl, rfl⟩ (by decide) hM3.own ⟨rfl, .inl ⟨_, _, rfl, hrow⟩⟩ (pc_one _) (by show 2 * (ps.length + 1) * 32 ≤ _; omega) fun T2 F5 hO5 hk5 hf5 => ?_
    have hM5 : Mine F1 F5 T2 75 2 (ps ++ [(⟨pg, d, B, bc⟩ : PcR)]).length (rowS pcC (ps ++ [(⟨pg, d, B, bc⟩ : PcR)])) := by
      rw [rowS_app, List.length_append]
      refine ⟨hO5, fun c hc => ?_, hk5.ext hM3.ext hM3.fresh⟩
      rcases hf5 c hc with h | h
      · exact hM3.fresh c h
      · exact hM3.ext.none h
    ((conv => whnf); repeat (first | (apply load_at; (conv => lhs; whnf); (with_reducible assumption); rfl; (conv => whnf)) | (apply load_at; (conv => lhs; rw [add_plain, add_plain]); (with_reducible assumption); rfl; (conv => whnf)) | (apply loads_at; (conv => lhs; whnf); (with_reducible assumption); rfl; (conv => whnf)) | (refine ⟨⟨by omega, by omega⟩, ?_⟩; (conv => whnf))))
    refine ⟨k - 1, by omega, i + 1, T2, ps ++ [(⟨pg, d, B, bc⟩ : PcR)], by omega, by rw [List.length_append, List.length_singleton]; omega, ?_, hM5, fun x hx => ?_, ?_⟩
    · exact Eq.trans (b := [.pointer (some ⟨pb, 0, none⟩), T2, .slice (some ad) S.length c1, .int .i64 (S.length : Int), .int .i64 (IntKind.i64.wrap ((i : Int) + 1))]) rfl (by rw [wrap_succ (j := i) (by omega)])
    · rcases List.mem_append.1 hx with hx | hx
      · exact hok x hx
      · rw [List.mem_singleton.1 hx]
        exact ⟨hbr, by show d.length ≤ 900000; omega⟩
    · rw [hst, ← hmap, List.map_append]
      rfl
  · have hi : i = S.length := by
      have h : decide ((i : Int) < (S.length : Int)) = false := h
      have := of_decide_eq_false h
      omega
    rw [hi, List.take_length] at hmap
    obtain ⟨A, c, rfl, _, hrow⟩ := hM.own.row
    ((conv => whnf); repeat (first | (apply load_at; (conv => lhs; whnf); (with_reducible assumption); rfl; (conv => whnf)) | (apply load_at; (conv => lhs; rw [add_plain, add_plain]); (with_reducible assumption); rfl; (conv => whnf)) | (apply loads_at; (conv => lhs; whnf); (with_reducible assumption); rfl; (conv => whnf)) | (refine ⟨⟨by omega, by omega⟩, ?_⟩; (conv => whnf))))
    exact ⟨ps, A, c, rfl, hrow, fun a ha => hE1.none (hM.fresh a.block (by rw [ha]; rfl)), hok, hmap, hE1.trans hM.ext⟩
theorem commit_size (s : DS) (q : Int) (ps : PgL) : (commitS dsO s q ps).1.size = s.size := by
  unfold commitS
  split
  · rfl
  split
  · rfl
  split
  · rfl
  split
  · exact (runW_le _ s).2
  split
  · exact (runW_le _ _).2.trans (runW_le _ s).2
  · exact (runW_le _ _).2.trans ((runW_le _ _).2.trans (runW_le _ s).2)
def keepS (e : Int) (S : PgL) : PgL := if e = 0 then [] else S
theorem pgCommit {D F R0 : Heap} {pb : Nat} {s : DS} {q : Int} {S : PgL} (hE : Ext D F) (hD : Pg D pb s q S) (hR0 : Ext R0 F) (hA0 : Apart D R0) (hN : NibAt R0) (hl : S.length ≤ 100000) (hw : s.writes + 200000 < 1000000000) :
    FnK Tryz.prog 10 #[.pointer (some ⟨pb, 0, none⟩)] F (fun v F' => v = .int .i64 (commitS dsO s q S).2.1 ∧ ∃ D', Moves D F D' F' ∧ Pg D' pb (commitS dsO s q S).1 (commitS dsO s q S).2.2 (keepS (commitS dsO s q S).2.1 S)) := by
  obtain ⟨hs, ho, lb, b, ms, L, lS, G, hP⟩ := hD
  have hc := hE _ _ hP.cell
  have k0 := pgReady hc
  have k1 := pgImages hE ⟨hs, ho⟩ hP hl
  have hsz := commit_size s q S
  have hLF := hP.baseL.trans hE
  have kc := fun (ps : List PcR) (h : ps.map pcW = S) => (show ∀ F1 R A c, Ext L F1 → Ext R F1 → Apart L R → NibAt R → RowAt R A (rowS pcC ps) → (∀ p ∈ ps, PcOk R p) → FnK Tryz.prog 32 #[.pointer (some ⟨lb, 0, none⟩), .slice A ps.length c] F1 (fun v F' => v = .int .i64 (commitS dsO s q S).2.1 ∧ ∃ E', Moves L F1 E' F' ∧ Lg E' lb b (commitS dsO s q S).1 (commitS dsO s q S).2.2) from fun F1 R A c h1 h2 h3 h4 h5 h6 => by
    have := lgCommit h1 hP.log h2 h3 h4 ps A c h5 h6 hw (by have := congrArg List.length h; rw [List.length_map] at this; omega)
    rw [h] at this
    exact this)
  generalize commitS dsO s q S = cs at kc hsz ⊢
  obtain ⟨s2, e, q2⟩ := cs
  dsimp only at kc hsz ⊢
  (refine fn_walk tab_ok Tryz.func10 rfl rfl rfl rfl ?_; (conv => whnf))
  refine call_of k0 ?_
  rintro v F ⟨rfl, rfl⟩
  refine short [0, 5] [.pointer (some ⟨pb, 0, none⟩), .bool true] rfl fun ρ => ?_
  ((conv => whnf); repeat (first | (apply load_at; (conv => lhs; whnf); (with_reducible assumption); rfl; (conv => whnf)) | (apply load_at; (conv => lhs; rw [add_plain, add_plain]); (with_reducible assumption); rfl; (conv => whnf)) | (apply loads_at; (conv => lhs; whnf); (with_reducible assumption); rfl; (conv => whnf)) | (refine ⟨⟨by omega, by omega⟩, ?_⟩; (conv => whnf))))
  refine draw_tree_at tab_ok (by kernel_rfl) [3] (DT.row [0, 1, 2, 3, 4, 5, 6, 7] .nil) (by kernel_rfl) (F.only pb) (only_ext rfl) ?_
  have hO := only_at hc
  ((conv => whnf); repeat (first | (apply load_at; (conv => lhs; whnf); (with_reducible assumption); rfl; (conv => whnf)) | (apply load_at; (conv => lhs; rw [add_plain, add_plain]); (with_reducible assumption); rfl; (conv => whnf)) | (apply loads_at; (conv => lhs; whnf); (with_reducible assumption); rfl; (conv => whnf)) | (refine ⟨⟨by omega, by omega⟩, ?_⟩; (conv => whnf))))
  refine call_of k1 ?_
  rintro v F1 ⟨ps, A, c, rfl, hr, hf, hok, hmap, hE1⟩
  (conv => whnf)
  refine ⟨(only_ext rfl).trans hE1, ?_⟩
  have hRA := restH_apart L F1
  have hRE := restH_ext L F1
  have hR0' : Ext R0 (restH L F1) := restH_keep (hR0.trans hE1) (hA0.mono hP.baseL)
  have hG' : Ext G (restH L F1) := restH_keep ((hP.base.trans hE).trans hE1) hP.lg
  have hr' := restH_row (E := L) hr (fun a ha => hLF.none (hf a ha))
  ((conv => whnf); repeat (first | (apply load_at; (conv => lhs; whnf); (with_reducible assumption); rfl; (conv => whnf)) | (apply load_at; (conv => lhs; rw [add_plain, add_plain]); (with_reducible assumption); rfl; (conv => whnf)) | (apply loads_at; (conv => lhs; whnf); (with_reducible assumption); rfl; (conv => whnf)) | (refine ⟨⟨by omega, by omega⟩, ?_⟩; (conv => whnf))))
  refine call_of (kc ps hmap F1 (restH L F1) A c (hLF.trans hE1) hRE hRA (hN.mono hR0') hr' (fun p hp => (hok p hp).mono hG')) ?_
  rintro v F2 ⟨rfl, L', hM2, hL2⟩
  obtain ⟨D', m1, P2⟩ := hP.logs (hE.trans hE1) hM2 hL2
  have hM := (Moves.ext hE hE1).trans m1
  have hc2 := m1.inn _ _ P2.cell
  have hD2 : Pg D' pb s2 q2 S := ⟨hs, by rw [hsz]; exact ho, lb, b, ms, L', lS, G, P2⟩
  (conv => whnf)
  refine ⟨only_ext (by rw [hc2, hc]), ?_⟩
  ((conv => whnf); repeat (first | (apply load_at; (conv => lhs; whnf); (with_reducible assumption); rfl; (conv => whnf)) | (apply load_at; (conv => lhs; rw [add_plain, add_plain]); (with_reducible assumption); rfl; (conv => whnf)) | (apply loads_at; (conv => lhs; whnf); (with_reducible assumption); rfl; (conv => whnf)) | (refine ⟨⟨by omega, by omega⟩, ?_⟩; (conv => whnf))))
  refine cond_split (fun h => ?_) (fun h => ?_)
  · have he : e = 0 := by
      have h : (e == 0) = true := h
      simpa using h
    subst he
    ((conv => whnf); repeat (first | (apply load_at; (conv => lhs; whnf); (with_reducible assumption); rfl; (conv => whnf)) | (apply load_at; (conv => lhs; rw [add_plain, add_plain]); (with_reducible assumption); rfl; (conv => whnf)) | (apply loads_at; (conv => lhs; whnf); (with_reducible assumption); rfl; (conv => whnf)) | (refine ⟨⟨by omega, by omega⟩, ?_⟩; (conv => whnf))))
    refine call_of (pgAbort m1.inn hD2) ?_
    rintro v F3 ⟨rfl, D3, M3, P3⟩
    ((conv => whnf); repeat (first | (apply load_at; (conv => lhs; whnf); (with_reducible assumption); rfl; (conv => whnf)) | (apply load_at; (conv => lhs; rw [add_plain, add_plain]); (with_reducible assumption); rfl; (conv => whnf)) | (apply loads_at; (conv => lhs; whnf); (with_reducible assumption); rfl; (conv => whnf)) | (refine ⟨⟨by omega, by omega⟩, ?_⟩; (conv => whnf))))
    exact ⟨rfl, D3, hM.trans M3, P3⟩
  · have he : e ≠ 0 := by
      have h : (e == 0) = false := h
      simpa using h
    ((conv => whnf); repeat (first | (apply load_at; (conv => lhs; whnf); (with_reducible assumption); rfl; (conv => whnf)) | (apply load_at; (conv => lhs; rw [add_plain, add_plain]); (with_reducible assumption); rfl; (conv => whnf)) | (apply loads_at; (conv => lhs; whnf); (with_reducible assumption); rfl; (conv => whnf)) | (refine ⟨⟨by omega, by omega⟩, ?_⟩; (conv => whnf))))
    refine ⟨rfl, D', hM, ?_⟩
    unfold keepS
    rw [if_neg he]
    exact hD2
end Go.Proofs.YtmpiggcooboenaaGreatDoor.Al
/- The reference's pagers: Commit, Changed, over what is known of memory. -/
namespace Go.Proofs.YtmpiggcooboenaaGreatDoor.Al
open Go Go.Al Go.Proofs Go.RowKit
set_option maxHeartbeats 8000000
set_option maxRecDepth 100000
set_option linter.unusedVariables false
set_option linter.unusedSimpArgs false
theorem rcommit_size (r : RS) (q : Int) (ps : PgL) : (commitS rsO r q ps).1.L.length = r.L.length := by
  unfold commitS
  split
  · rfl
  split
  · rfl
  split
  · rfl
  split
  · exact (rrun_le _ r).2
  split
  · exact (rrun_le _ _).2.trans (rrun_le _ r).2
  · exact (rrun_le _ _).2.trans ((rrun_le _ _).2.trans (rrun_le _ r).2)
theorem rpCommit {X F : Heap} {xb : Nat} {r : RS} {q : Int} {S : PgL} (hE : Ext X F) (hX : Rp X xb r q S) (hw : r.done + 200000 < 1000000000) :
    FnK Tryz.prog 19 #[.pointer (some ⟨xb, 0, none⟩)] F (fun v F' => v = .int .i64 (commitS rsO r q S).2.1 ∧ ∃ X', Moves X F X' F' ∧ Rp X' xb (commitS rsO r q S).1 (commitS rsO r q S).2.2 (keepS (commitS rsO r q S).2.1 S)) := by
  obtain ⟨hs, ho, hn, lb, b, T, L, ps, G, hP⟩ := hX
  have hc := hE _ _ hP.cell
  obtain ⟨A, c, rfl, hcc, hr⟩ := hP.own.row
  have hsz := rcommit_size r q S
  have hLF := hP.baseL.trans hE
  have hps : ps.length = S.length := by rw [← hP.map, List.length_map]
  have hr' := restH_row (E := L) (hr.mono hE) (fun a ha => hP.lT a.block (by rw [ha]; rfl))
  have hG' : Ext G (restH L F) := restH_keep (hP.base.trans hE) hP.lg
  have kc := rgCommit hLF hP.log (restH_ext L F) (restH_apart L F) ps A c hr' (fun p hp => (hP.ok p hp).mono hG') hw (by omega)
  rw [hP.map] at kc
  generalize commitS rsO r q S = cs at kc hsz ⊢
  obtain ⟨r2, e, q2⟩ := cs
  dsimp only at kc hsz ⊢
  (refine fn_walk tab_ok Tryz.func19 rfl rfl rfl rfl ?_; (conv => whnf))
  refine draw_tree_at tab_ok (by kernel_rfl) [3, 7] (DT.row [0, 1, 2, 3, 4, 5, 6, 7, 8, 9] .nil) (by kernel_rfl) (F.only xb) (only_ext rfl) ?_
  have hO := only_at hc
  ((conv => whnf); repeat (first | (apply load_at; (conv => lhs; whnf); (with_reducible assumption); rfl; (conv => whnf)) | (apply load_at; (conv => lhs; rw [add_plain, add_plain]); (with_reducible assumption); rfl; (conv => whnf)) | (apply loads_at; (conv => lhs; whnf); (with_reducible assumption); rfl; (conv => whnf)) | (refine ⟨⟨by omega, by omega⟩, ?_⟩; (conv => whnf))))
  refine call_of kc ?_
  rintro v F2 ⟨rfl, L', hM2, hL2⟩
  obtain ⟨X', m1, P2⟩ := hP.logs hE hM2 hL2
  have hc2 := m1.inn _ _ P2.cell
  (conv => whnf)
  refine ⟨only_ext (by rw [hc2, hc]), ?_⟩
  ((conv => whnf); repeat (first | (apply load_at; (conv => lhs; whnf); (with_reducible assumption); rfl; (conv => whnf)) | (apply load_at; (conv => lhs; rw [add_plain, add_plain]); (with_reducible assumption); rfl; (conv => whnf)) | (apply loads_at; (conv => lhs; whnf); (with_reducible assumption); rfl; (conv => whnf)) | (refine ⟨⟨by omega, by omega⟩, ?_⟩; (conv => whnf))))
  refine cond_split (fun h => ?_) (fun h => ?_)
  · have he : e ≠ 0 := by
      have h : (e != 0) = true := h
      simpa using h
    ((conv => whnf); repeat (first | (apply load_at; (conv => lhs; whnf); (with_reducible assumption); rfl; (conv => whnf)) | (apply load_at; (conv => lhs; rw [add_plain, add_plain]); (with_reducible assumption); rfl; (conv => whnf)) | (apply loads_at; (conv => lhs; whnf); (with_reducible assumption); rfl; (conv => whnf)) | (refine ⟨⟨by omega, by omega⟩, ?_⟩; (conv => whnf))))
    have e9 : keepS e S = S := by unfold keepS; rw [if_neg he]
    rw [e9]
    exact ⟨rfl, X', m1, hs, by rw [hsz]; exact ho, hn, lb, b, _, L', ps, G, P2⟩
  · have he : e = 0 := by
      have h : (e != 0) = false := h
      simpa using h
    subst he
    ((conv => whnf); repeat (first | (apply load_at; (conv => lhs; whnf); (with_reducible assumption); rfl; (conv => whnf)) | (apply load_at; (conv => lhs; rw [add_plain, add_plain]); (with_reducible assumption); rfl; (conv => whnf)) | (apply loads_at; (conv => lhs; whnf); (with_reducible assumption); rfl; (conv => whnf)) | (refine ⟨⟨by omega, by omega⟩, ?_⟩; (conv => whnf))))
    refine store_step xb 1 _ #[.pointer (some ⟨lb, 0, none⟩), .slice none 0 0] rfl hc2 rfl rfl (.inl (Nat.le_refl 0)) (one_slice _ _ _) ?_
    obtain ⟨M3, P3⟩ := P2.clear m1.inn
    generalize F2.put xb _ = F3 at M3 ⊢
    ((conv => whnf); repeat (first | (apply load_at; (conv => lhs; whnf); (with_reducible assumption); rfl; (conv => whnf)) | (apply load_at; (conv => lhs; rw [add_plain, add_plain]); (with_reducible assumption); rfl; (conv => whnf)) | (apply loads_at; (conv => lhs; whnf); (with_reducible assumption); rfl; (conv => whnf)) | (refine ⟨⟨by omega, by omega⟩, ?_⟩; (conv => whnf))))
    exact ⟨rfl, _, m1.trans M3, List.Pairwise.nil, (fun x h => by cases h), Nat.zero_le _, lb, b, _, L', [], G, P3⟩
theorem rpChanged {X F : Heap} {xb : Nat} {r : RS} {q : Int} {S : PgL} (hE : Ext X F) (hX : Rp X xb r q S) : FnK Tryz.prog 21 #[.pointer (some ⟨xb, 0, none⟩)] F (fun v F' => Mine F F' v 3 1 S.length ((S.map (·.1)).map (.int .i64))) := by
  obtain ⟨hs, ho, hn, lb, b, T, L, ps, G, hP⟩ := hX
  have hc := hE _ _ hP.cell
  obtain ⟨A, c, rfl, hcc, hr⟩ := hP.own.row
  replace hr := hr.mono hE
  have hmap := hP.map
  have hln : S.length = ps.length := by rw [← hmap, List.length_map]
  have hex : ∀ i, (h : i < ps.length) → ps.take (i + 1) = ps.take i ++ [ps[i]] := fun i h => by rw [List.take_add_one, List.getElem?_eq_getElem h]; rfl
  clear hP
  have hfin : (ps.map (·.at_)) = S.map (·.1) := by rw [← hmap, List.map_map]; rfl
  (refine fn_walk tab_ok Tryz.func21 rfl rfl rfl rfl ?_; (conv => whnf))
  refine loop_slots [0, 3, 4] (fun k vs F' => ∃ (i : Nat) (U : Value), i + k = ps.length ∧ vs = [.pointer (some ⟨xb, 0, none⟩), U, .int .i64 (i : Int)] ∧ Mine F F' U 3 1 i (((ps.take i).map (·.at_)).map (.int .i64))) ps.length ⟨0, .slice none 0 0, by omega, rfl, Mine.nil _ _ _ _ (Ext.refl _)⟩ ?_
  rintro k vs F2 ρ ⟨i, U, hik, rfl, hM⟩
  have hc2 := hM.ext _ _ hc
  ((conv => whnf); repeat (first | (apply load_at; (conv => lhs; whnf); (with_reducible assumption); rfl; (conv => whnf)) | (apply load_at; (conv => lhs; rw [add_plain, add_plain]); (with_reducible assumption); rfl; (conv => whnf)) | (apply loads_at; (conv => lhs; whnf); (with_reducible assumption); rfl; (conv => whnf)) | (refine ⟨⟨by omega, by omega⟩, ?_⟩; (conv => whnf))))
  refine cond_split (fun h => ?_) (fun h => ?_)
  · have hi : i < ps.length := by
      have h : decide ((i : Int) < (ps.length : Int)) = true := h
      have := of_decide_eq_true h
      omega
    have hst := hex i hi
    obtain ⟨ad, rfl⟩ := hr.some (by rw [rowS_len pcC_len]; omega)
    have hx : ps[i]? = some ps[i] := List.getElem?_eq_getElem hi
    generalize ps[i] = x at hst hx
    have c0 := rowS_cell pcC_len (hr.mono hM.ext) hx (q := 0) rfl
    ((conv => whnf); repeat (first | (apply load_at; (conv => lhs; whnf); (with_reducible assumption); rfl; (conv => whnf)) | (apply load_at; (conv => lhs; rw [add_plain, add_plain]); (with_reducible assumption); rfl; (conv => whnf)) | (apply loads_at; (conv => lhs; whnf); (with_reducible assumption); rfl; (conv => whnf)) | (refine ⟨⟨by omega, by omega⟩, ?_⟩; (conv => whnf))))
    refine load_step c0 ?_
    ((conv => whnf); repeat (first | (apply load_at; (conv => lhs; whnf); (with_reducible assumption); rfl; (conv => whnf)) | (apply load_at; (conv => lhs; rw [add_plain, add_plain]); (with_reducible assumption); rfl; (conv => whnf)) | (apply loads_at; (conv => lhs; whnf); (with_reducible assumption); rfl; (conv => whnf)) | (refine ⟨⟨by omega, by omega⟩, ?_⟩; (conv => whnf))))
    refine new_step (.cells #[.int .i64 x.at_] 3) rfl fun g h0_g => ?_
    have hE_g := Ext.new h0_g (.cells #[.int .i64 x.at_] 3)
    have hB_g := Heap.put_same F2 g (.cells #[.int .i64 x.at_] 3)
    generalize F2.put g _ = F3 at hE_g hB_g ⊢
    have hM3 := hM.mono hE_g
    have hrow := row_blk hB_g
    rw [List.toList_toArray] at hrow
    ((conv => whnf); repeat (first | (apply load_at; (conv => lhs; whnf); (with_reducible assumption); rfl; (conv => whnf)) | (apply load_at; (conv => lhs; rw [add_plain, add_plain]); (with_reducible assumption); rfl; (conv => whnf)) | (apply loads_at; (conv => lhs; whnf); (with_reducible assumption); rfl; (conv => whnf)) | (refine ⟨⟨by omega, by omega⟩, ?_⟩; (conv => whnf))))
    refine append_own tab_ok (s := U) (n := i) (xs := ((ps.take i).map (·.at_)).map (.int .i64)) (m := 1) (ys := [.int .i64 x.at_]) (y := .slice (some ⟨g, 0, none⟩) 1 1) rfl rfl rfl rfl rfl ⟨_, rfl, fun k h => by cases h⟩ ⟨_, rfl, rfl⟩ (by decide) hM3.own ⟨rfl, .inl ⟨_, _, rfl, hrow⟩⟩ (one_int _ _) (by show 2 * (i + 1) * 8 ≤ _; omega) fun U2 F5 hO5 hk5 hf5 => ?_
    have hM5 : Mine F F5 U2 3 1 (i + 1) (((ps.take (i + 1)).map (·.at_)).map (.int .i64)) := by
      rw [hst, List.map_append, List.map_append]
      refine ⟨hO5, fun c hc => ?_, hk5.ext hM3.ext hM3.fresh⟩
      rcases hf5 c hc with h | h
      · exact hM3.fresh c h
      · exact hM3.ext.none h
    ((conv => whnf); repeat (first | (apply load_at; (conv => lhs; whnf); (with_reducible assumption); rfl; (conv => whnf)) | (apply load_at; (conv => lhs; rw [add_plain, add_plain]); (with_reducible assumption); rfl; (conv => whnf)) | (apply loads_at; (conv => lhs; whnf); (with_reducible assumption); rfl; (conv => whnf)) | (refine ⟨⟨by omega, by omega⟩, ?_⟩; (conv => whnf))))
    refine ⟨k - 1, by omega, i + 1, U2, by omega, ?_, hM5⟩
    exact Eq.trans (b := [.pointer (some ⟨xb, 0, none⟩), U2, .int .i64 (IntKind.i64.wrap ((i : Int) + 1))]) rfl (by rw [wrap_succ (j := i) (by omega)])
  · have hi : i = ps.length := by
      have h : decide ((i : Int) < (ps.length : Int)) = false := h
      have := of_decide_eq_false h
      omega
    rw [hi, List.take_length, hfin, ← hln] at hM
    ((conv => whnf); repeat (first | (apply load_at; (conv => lhs; whnf); (with_reducible assumption); rfl; (conv => whnf)) | (apply load_at; (conv => lhs; rw [add_plain, add_plain]); (with_reducible assumption); rfl; (conv => whnf)) | (apply loads_at; (conv => lhs; whnf); (with_reducible assumption); rfl; (conv => whnf)) | (refine ⟨⟨by omega, by omega⟩, ?_⟩; (conv => whnf))))
    exact hM
end Go.Proofs.YtmpiggcooboenaaGreatDoor.Al
/- Logs on new disks: the first calls, as one word each. -/
namespace Go.Proofs.YtmpiggcooboenaaGreatDoor.Al
open Go Go.Al Go.Proofs Go.RowKit
set_option maxHeartbeats 8000000
set_option maxRecDepth 100000
set_option linter.unusedVariables false
set_option linter.unusedSimpArgs false
theorem new_n {n : Int} (hn : 3 ≤ n ∧ n ≤ 65536) (F : Heap) : FnK Tryz.prog 23 #[.int .i64 n] F (fun v F' => ∃ b D', v = .tuple #[.pointer (some ⟨b, 0, none⟩), .int .i64 0] ∧ Moves emptyH F D' F' ∧ Dk D' b (newS n)) := by
  refine (new n F).mono ?_
  rintro v F' (⟨h, _⟩ | ⟨_, _, b, D, h1, h2, h3⟩)
  · omega
  · exact ⟨b, D, h1, h2, h3⟩
theorem fmt_n {n : Int} (hn : 3 ≤ n ∧ n ≤ 65536) {D F : Heap} {b : Nat} (hE : Ext D F) (hD : Dk D b (newS n)) (hN : NibAt F) : FnK Tryz.prog 24 #[.pointer (some ⟨b, 0, none⟩)] F (fun v F' => v = .int .i64 0 ∧ ∃ D' s, Moves D F D' F' ∧ Dk D' b s ∧ Fresh n s) := by
  obtain ⟨f1, f2⟩ := fmt_fresh hn
  refine (redoFormat hE hD hN (by show (0 : Int) + 1 < _; omega)).mono ?_
  rintro v F' ⟨rfl, D', h1, h2⟩
  exact ⟨by rw [f1], D', _, h1, h2, f2⟩
/-- Opening on a disk that is up. -/
theorem open_n {D F : Heap} {b : Nat} {s : DS} {cnt q : Int} {X : (Int → List UInt8) → Prop} (hE : Ext D F) (hD : Dk D b s) (hN : NibAt F) (hX : Cls s.size cnt q X) (hu : Up s) (hc : Calm s) (hw : s.writes + 40000 < 1000000000) (hx : X (secB s)) :
    FnK Tryz.prog 25 #[.pointer (some ⟨b, 0, none⟩)] F (fun v F' => ∃ lb E' s', v = .tuple #[.pointer (some ⟨lb, 0, none⟩), .int .i64 0] ∧ Moves D F E' F' ∧ Lg E' lb b s' q ∧ Up s' ∧ DWf s' ∧ Calm s' ∧ s'.size = s.size ∧ X (secB s') ∧ s'.writes ≤ s.writes + 32768 ∧ (∀ ws, wholeO (cO s.size) (secB s) cnt q = some ws → secB s' = putAll (secB s) ws ∧ s'.writes = s.writes + ws.length)) := by
  obtain ⟨o1, o2, o3, o4, o5, o6, o7, o8⟩ := open_up hX hu hD.1 hc (by omega) hx
  have hq := hX.rd _ hx
  have hrg := rdN_range (cO s.size) (secB s)
  rw [hq] at hrg
  refine (redoOpen hE hD hN hw).mono ?_
  rw [o1]
  rintro v F' ⟨w, D', rfl, hM, hD', lb, rfl, g1, g2, g3⟩
  obtain ⟨h1, h2⟩ := lgv_take hM hD' g1 g2 g3 hrg.2
  exact ⟨lb, _, _, rfl, h1, h2, o2, o3, o4, o5, o6, o7, o8⟩
theorem open_f {n : Int} (hn : 3 ≤ n ∧ n ≤ 65536) {D F : Heap} {b : Nat} {s : DS} (hE : Ext D F) (hD : Dk D b s) (hN : NibAt F) (hf : Fresh n s) :
    FnK Tryz.prog 25 #[.pointer (some ⟨b, 0, none⟩)] F (fun v F' => ∃ lb E' s', v = .tuple #[.pointer (some ⟨lb, 0, none⟩), .int .i64 0] ∧ Moves D F E' F' ∧ Lg E' lb b s' 1 ∧ Fresh n s') := by
  obtain ⟨u, w, c, sz, wr, d, z⟩ := hf
  subst sz
  have hI : Ims s.size 1 [] := ims_nil (by decide)
  refine (open_n hE hD hN (cls_done (c0 := secB s) hn.1 hI) u c (by omega) d).mono ?_
  rintro v F' ⟨lb, E', s', rfl, h1, h2, h3, h4, h5, h6, h7, h8, h9⟩
  obtain ⟨e1, e2⟩ := h9 [] (slots_whole hI d.slots)
  have e : secB s' = secB s := e1
  refine ⟨lb, E', s', rfl, h1, h2, h3, h4, h5, h6, by rw [e2, wr]; rfl, ?_, fun k hk => by rw [e]; exact z k hk⟩
  rw [e]
  exact d
/-- Committing on a disk that is up. -/
theorem commit_n {E F R : Heap} {b lb : Nat} {s : DS} {q : Int} (hE : Ext E F) (hL : Lg E lb b s q) (hR : Ext R F) (hA : Apart E R) (hN : NibAt R) (ims : List PcR) (A : Option Addr) (c : Nat) (hr : RowAt R A (rowS pcC ims)) (hp : ∀ p ∈ ims, PcOk R p) (hw : s.writes + 200000 < 1000000000)
    (hI : Ims s.size (q + 1) (ims.map pcW)) (h0 : ims ≠ []) (hu : Up s) :
    FnK Tryz.prog 32 #[.pointer (some ⟨lb, 0, none⟩), .slice A ims.length c] F (fun v F' => v = .int .i64 0 ∧ ∃ E' s', Moves E F E' F' ∧ Lg E' lb b s' (q + 1) ∧ Up s' ∧ DWf s' ∧ Calm s' ∧ s'.size = s.size ∧ Done s.size (q + 1) (ims.map pcW) (secB s) (secB s') ∧ s'.writes = s.writes + 2 * ims.length + 1) := by
  have hwf : DWf s := by obtain ⟨D, hD, _⟩ := hL; exact hD.1
  have hle := pagesN_le s.size
  have hl := hI.len
  rw [List.length_map] at hl
  obtain ⟨s', c1, c2, c3, c4, c5, c6, c7⟩ := commit_to hI (by intro e; exact h0 (List.map_eq_nil_iff.1 e)) hu hwf (by omega)
  rw [List.length_map] at c7
  refine (lgCommit hE hL hR hA hN ims A c hr hp hw (by omega)).mono ?_
  rw [c1]
  rintro v F' ⟨rfl, E', h1, h2⟩
  exact ⟨rfl, E', s', h1, h2, c2, c3, c4, c5, c6, c7⟩
theorem commit_0 {E F R : Heap} {b lb : Nat} {s : DS} {q : Int} (hE : Ext E F) (hL : Lg E lb b s q) (hR : Ext R F) (hA : Apart E R) (hN : NibAt R) (A : Option Addr) (c : Nat) (hw : s.writes + 200000 < 1000000000) :
    FnK Tryz.prog 32 #[.pointer (some ⟨lb, 0, none⟩), .slice A 0 c] F (fun v F' => v = .int .i64 0 ∧ ∃ E', Moves E F E' F' ∧ Lg E' lb b s q) := by
  refine (lgCommit hE hL hR hA hN [] A c (RowAt.nil _ _) (fun p h => by cases h) hw (Nat.zero_le _)).mono ?_
  rw [show commitS dsO s q (List.map pcW []) = (s, 0, q) from commit_none s q]
  rintro v F' ⟨rfl, E', h1, h2⟩
  exact ⟨rfl, E', h1, h2⟩
end Go.Proofs.YtmpiggcooboenaaGreatDoor.Al
/- Pagers on new disks. -/
namespace Go.Proofs.YtmpiggcooboenaaGreatDoor.Al
open Go Go.Al Go.Proofs Go.RowKit
set_option maxHeartbeats 8000000
set_option maxRecDepth 100000
set_option linter.unusedVariables false
set_option linter.unusedSimpArgs false
theorem start_n {n : Nat} (hn : 3 ≤ (n : Int) ∧ (n : Int) ≤ 65536) : ∃ r1 r2, runW rsO (newR n) [(0, noteB 0 1)] = (r1, 0) ∧ openS rsO r1 = (r2, 0, some 1) ∧ Sim (frsS n) r2 ∧ r1.done + 40000 < 1000000000 := by
  have S0 := sim_new n
  obtain ⟨e1, S1, w1⟩ := sim_run [(0, noteB 0 1)] _ _ S0 (newS_wf hn.1 hn.2) (by show (0 : Int) + ((1 : Nat) : Int) < _; omega)
  have b1 := runW_le [(0, noteB 0 1)] (newS (n : Int))
  replace b1 : (runW dsO (newS (n : Int)) [(0, noteB 0 1)]).1.writes ≤ 0 + ((1 : Nat) : Int) ∧ (runW dsO (newS (n : Int)) [(0, noteB 0 1)]).1.size = n := b1
  obtain ⟨f1, _⟩ := fmt_fresh hn
  obtain ⟨f2, _⟩ := frs_fresh hn
  rw [f1] at e1
  obtain ⟨e2, S2, _, _⟩ := sim_open S1 w1 (by omega)
  have f2 : (openS dsO (runW dsO (newS (n : Int)) [(0, noteB 0 1)]).1).2 = (0, some 1) := f2
  rw [f2] at e2
  refine ⟨(runW rsO (newR n) [(0, noteB 0 1)]).1, (openS rsO (runW rsO (newR n) [(0, noteB 0 1)]).1).1, ?_, ?_, S2, ?_⟩
  · exact Prod.ext rfl e1.symm
  · exact Prod.ext rfl e2.symm
  · have := S1.wr
    omega
theorem apart_new {F D F' : Heap} (h : Moves emptyH F D F') : Apart D F := fun c hc => by
  rcases h.new c hc with h1 | h1
  · exact absurd rfl h1
  · exact h1
theorem fresh_ext {F D F' : Heap} (h : Moves emptyH F D F') : Ext F F' := fun c o hc => h.out c o hc rfl
end Go.Proofs.YtmpiggcooboenaaGreatDoor.Al
/- Pagers: the laws' words: page, fresh. -/
namespace Go.Proofs.YtmpiggcooboenaaGreatDoor.Al
open Go Go.Al Go.Proofs Go.RowKit
set_option maxHeartbeats 8000000
set_option maxRecDepth 100000
set_option linter.unusedVariables false
set_option linter.unusedSimpArgs false
theorem page7 (x : UInt8) (F : Heap) : FnK Tryz.prog 9 #[.int .u8 x.toNat] F (fun v F' => NewRow F F' v (List.replicate 240 x) ∧ Ext F F') := by
  (refine fn_walk tab_ok Tryz.func9 rfl rfl rfl rfl ?_; (conv => whnf))
  refine new_step (.cells #[.int .u8 x.toNat] 5) rfl fun g h0_g => ?_
  have hE_g := Ext.new h0_g (.cells #[.int .u8 x.toNat] 5)
  have hB_g := Heap.put_same F g (.cells #[.int .u8 x.toNat] 5)
  generalize F.put g _ = F1 at hE_g hB_g ⊢
  (conv => whnf)
  refine call_of (repeat240 x (some ⟨g, 0, none⟩) 1 F1 ?_) ?_
  · exact row_blk hB_g
  rintro v F2 ⟨⟨A, c, rfl, h1, h2, h3⟩, hE⟩
  ((conv => whnf); repeat (first | (apply load_at; (conv => lhs; whnf); (with_reducible assumption); rfl; (conv => whnf)) | (apply load_at; (conv => lhs; rw [add_plain, add_plain]); (with_reducible assumption); rfl; (conv => whnf)) | (apply loads_at; (conv => lhs; whnf); (with_reducible assumption); rfl; (conv => whnf)) | (refine ⟨⟨by omega, by omega⟩, ?_⟩; (conv => whnf))))
  exact ⟨⟨A, c, rfl, h1, h2, fun a ha => hE_g.none (h3 a ha)⟩, hE_g.trans hE⟩
theorem fresh7 {n : Nat} (hn : (3 : Int) ≤ (n : Int) ∧ (n : Int) ≤ 65536) (h0 : pagesN (n : Int) ≠ 0) (F : Heap) (hN : NibAt F) : FnK Tryz.prog 6 #[.int .i64 (n : Int)] F (fun v F' => ∃ pb xb D X s r, v = .tuple #[.pointer (some ⟨pb, 0, none⟩), .pointer (some ⟨xb, 0, none⟩)] ∧ Ext F F' ∧ Duo F' D X ∧ Apart D F ∧ Apart X F ∧ Pg D pb s 1 [] ∧ Rp X xb r 1 [] ∧ Sim s r ∧ Fresh (n : Int) s) := by
  obtain ⟨r1, r2, x1, x2, S2, hdone⟩ := start_n hn
  obtain ⟨f1, fm⟩ := fmt_fresh hn
  obtain ⟨f2, ff⟩ := frs_fresh hn
  have kF := fun D F b hE hD hN => redoFormat (D := D) (F := F) (b := b) (s := newS (n : Int)) hE hD hN (by show (0 : Int) + 1 < _; omega)
  have kO := fun D F b hE hD hN => redoOpen (D := D) (F := F) (b := b) (s := fmtS (n : Int)) hE hD hN (by rw [fm.writes]; decide)
  have e1 : runW dsO (newS (n : Int)) [(0, noteB 0 1)] = (fmtS (n : Int), 0) := Prod.ext rfl f1
  rw [e1] at kF
  have kG := fun D F b hE hD => rformat (D := D) (F := F) (b := b) (r := newR n) hE hD (by show (0 : Int) + 1 < _; omega)
  rw [x1] at kG
  have kP := fun D F b hE hD => rgOpen (D := D) (F := F) (b := b) (r := r1) hE hD hdone
  rw [x2] at kP
  have e2 : openS dsO (fmtS (n : Int)) = (frsS (n : Int), 0, some 1) := Prod.ext rfl f2
  rw [e2] at kO
  dsimp only at kF kO kG kP
  clear fm f1 f2 e1 e2 x1 x2 hdone
  have h0 : pagesN (frsS (n : Int)).size ≠ 0 := by rw [ff.size]; exact h0
  generalize fmtS (n : Int) = sF at kF kO
  generalize frsS (n : Int) = s at kO S2 ff h0
  (refine fn_walk tab_ok Tryz.func6 rfl rfl rfl rfl ?_; (conv => whnf))
  refine call_of (new_n hn F) ?_
  rintro v F1 ⟨b, D1, rfl, M1, K1⟩
  have E1 := fresh_ext M1
  refine short [0, 2, 3, 16] [.int .i64 (n : Int), .pointer none, .pointer none, .tuple #[.pointer (some ⟨b, 0, none⟩), .int .i64 0]] rfl fun ρ => ?_
  ((conv => whnf); repeat (first | (apply load_at; (conv => lhs; whnf); (with_reducible assumption); rfl; (conv => whnf)) | (apply load_at; (conv => lhs; rw [add_plain, add_plain]); (with_reducible assumption); rfl; (conv => whnf)) | (apply loads_at; (conv => lhs; whnf); (with_reducible assumption); rfl; (conv => whnf)) | (refine ⟨⟨by omega, by omega⟩, ?_⟩; (conv => whnf))))
  refine call_of (kF D1 F1 b M1.inn K1 (hN.mono E1)) ?_
  rintro v F2 ⟨rfl, D2, M2, K2⟩
  have aD1 := apart_new M1
  have E2 := M2.keep E1 aD1
  have aD2 := M2.apart E1 aD1
  refine short [0, 2, 3, 4, 20] [.int .i64 (n : Int), .pointer none, .pointer none, .pointer (some ⟨b, 0, none⟩), .int .i64 0] rfl fun ρ => ?_
  ((conv => whnf); repeat (first | (apply load_at; (conv => lhs; whnf); (with_reducible assumption); rfl; (conv => whnf)) | (apply load_at; (conv => lhs; rw [add_plain, add_plain]); (with_reducible assumption); rfl; (conv => whnf)) | (apply loads_at; (conv => lhs; whnf); (with_reducible assumption); rfl; (conv => whnf)) | (refine ⟨⟨by omega, by omega⟩, ?_⟩; (conv => whnf))))
  refine call_of (kO D2 F2 b M2.inn K2 (hN.mono E2)) ?_
  rintro v F3 ⟨w, D3, rfl, M3, K3, lb, rfl, g1, g2, g3⟩
  obtain ⟨M3, L3⟩ := lgv_take M3 K3 g1 g2 g3 (by decide)
  have E3 := M3.keep E2 aD2
  have aD3 := M3.apart E2 aD2
  generalize D3.put lb (lgO b 1) = D3 at M3 L3 aD3
  refine short [0, 2, 3, 23] [.int .i64 (n : Int), .pointer none, .pointer none, .tuple #[.pointer (some ⟨lb, 0, none⟩), .int .i64 0]] rfl fun ρ => ?_
  ((conv => whnf); repeat (first | (apply load_at; (conv => lhs; whnf); (with_reducible assumption); rfl; (conv => whnf)) | (apply load_at; (conv => lhs; rw [add_plain, add_plain]); (with_reducible assumption); rfl; (conv => whnf)) | (apply loads_at; (conv => lhs; whnf); (with_reducible assumption); rfl; (conv => whnf)) | (refine ⟨⟨by omega, by omega⟩, ?_⟩; (conv => whnf))))
  refine call_of (pgNew M3.inn L3 h0) ?_
  rintro v F4 ⟨pb, D4, rfl, M4, P4⟩
  have E4 := M4.keep E3 aD3
  have aD4 := M4.apart E3 aD3
  refine short [0, 2, 3, 28] [.int .i64 (n : Int), .pointer none, .pointer none, .tuple #[.pointer (some ⟨pb, 0, none⟩), .int .i64 0]] rfl fun ρ => ?_
  ((conv => whnf); repeat (first | (apply load_at; (conv => lhs; whnf); (with_reducible assumption); rfl; (conv => whnf)) | (apply load_at; (conv => lhs; rw [add_plain, add_plain]); (with_reducible assumption); rfl; (conv => whnf)) | (apply loads_at; (conv => lhs; whnf); (with_reducible assumption); rfl; (conv => whnf)) | (refine ⟨⟨by omega, by omega⟩, ?_⟩; (conv => whnf))))
  refine call_of (rnew (n : Int) F4) ?_
  rintro v F5 h
  rcases h with ⟨h1, _⟩ | ⟨_, _, xb, X5, rfl, M5, K5⟩
  · omega
  rw [Int.toNat_natCast] at K5
  have E45 := fresh_ext M5
  have aX5 := apart_new M5
  have H5 : Duo F5 D4 X5 := ⟨M4.inn.trans E45, M5.inn, (aX5.symm.mono M4.inn)⟩
  have aX5F : Apart X5 F := fun c hc => E4.none (aX5 c hc)
  have E5 := E4.trans E45
  refine short [2, 3, 8, 33] [.pointer none, .pointer none, .pointer (some ⟨pb, 0, none⟩), .tuple #[.pointer (some ⟨xb, 0, none⟩), .int .i64 0]] rfl fun ρ => ?_
  ((conv => whnf); repeat (first | (apply load_at; (conv => lhs; whnf); (with_reducible assumption); rfl; (conv => whnf)) | (apply load_at; (conv => lhs; rw [add_plain, add_plain]); (with_reducible assumption); rfl; (conv => whnf)) | (apply loads_at; (conv => lhs; whnf); (with_reducible assumption); rfl; (conv => whnf)) | (refine ⟨⟨by omega, by omega⟩, ?_⟩; (conv => whnf))))
  refine call_of (kG X5 F5 xb H5.x K5) ?_
  rintro v F6 ⟨rfl, X6, M6, K6⟩
  obtain ⟨H6, T6⟩ := H5.onX M6
  refine short [2, 3, 8, 10, 40] [.pointer none, .pointer none, .pointer (some ⟨pb, 0, none⟩), .pointer (some ⟨xb, 0, none⟩), .int .i64 0] rfl fun ρ => ?_
  ((conv => whnf); repeat (first | (apply load_at; (conv => lhs; whnf); (with_reducible assumption); rfl; (conv => whnf)) | (apply load_at; (conv => lhs; rw [add_plain, add_plain]); (with_reducible assumption); rfl; (conv => whnf)) | (apply loads_at; (conv => lhs; whnf); (with_reducible assumption); rfl; (conv => whnf)) | (refine ⟨⟨by omega, by omega⟩, ?_⟩; (conv => whnf))))
  refine call_of (kP X6 F6 xb H6.x K6) ?_
  rintro v F7 ⟨w, X7, rfl, M7, K7, xl, rfl, g1, g2, g3⟩
  obtain ⟨M7, L7⟩ := rgv_take M7 K7 g1 g2 g3 (by decide)
  obtain ⟨H7, T7⟩ := H6.onX M7
  generalize X7.put xl (rgO xb 1) = X7 at M7 L7 H7 T7
  obtain ⟨E7, aD7, aX7⟩ := (T6.trans T7) F E5 aD4 aX5F
  refine short [2, 3, 8, 43] [.pointer none, .pointer none, .pointer (some ⟨pb, 0, none⟩), .tuple #[.pointer (some ⟨xl, 0, none⟩), .int .i64 0]] rfl fun ρ => ?_
  ((conv => whnf); repeat (first | (apply load_at; (conv => lhs; whnf); (with_reducible assumption); rfl; (conv => whnf)) | (apply load_at; (conv => lhs; rw [add_plain, add_plain]); (with_reducible assumption); rfl; (conv => whnf)) | (apply loads_at; (conv => lhs; whnf); (with_reducible assumption); rfl; (conv => whnf)) | (refine ⟨⟨by omega, by omega⟩, ?_⟩; (conv => whnf))))
  refine new_step (xpO xl (.slice none 0 0)) rfl fun xp h8 => ?_
  obtain ⟨m1, m2⟩ := rp_new H7.x L7 h8
  obtain ⟨H8, T8⟩ := H7.onX m1
  obtain ⟨E8, aD8, aX8⟩ := T8 F E7 aD7 aX7
  ((conv => whnf); repeat (first | (apply load_at; (conv => lhs; whnf); (with_reducible assumption); rfl; (conv => whnf)) | (apply load_at; (conv => lhs; rw [add_plain, add_plain]); (with_reducible assumption); rfl; (conv => whnf)) | (apply loads_at; (conv => lhs; whnf); (with_reducible assumption); rfl; (conv => whnf)) | (refine ⟨⟨by omega, by omega⟩, ?_⟩; (conv => whnf))))
  exact ⟨pb, xp, D4, _, s, r2, rfl, E8, H8, aD8, aX8, P4, m2, S2, ff⟩
end Go.Proofs.YtmpiggcooboenaaGreatDoor.Al
/- Pagers: what a commit leaves, in plain Lean; the laws' awake. -/
namespace Go.Proofs.YtmpiggcooboenaaGreatDoor.Al
open Go Go.Al Go.Proofs Go.RowKit
set_option maxHeartbeats 8000000
set_option maxRecDepth 100000
set_option linter.unusedVariables false
set_option linter.unusedSimpArgs false
theorem fresh_zero {n : Int} {s : DS} (hf : Fresh n s) {p : Int} (hp : isPg n p = true) : pgOf n (secB s) p = zeros240 := by
  obtain ⟨h1, _, _⟩ := home_range (isPg_iff.1 hp)
  have hp2 := isPg_iff.1 hp
  have hle := pagesN_le n
  have hz := hf.zero (homeI n p) (by omega)
  unfold pgOf
  rw [hz]
  split
  · rfl
  · next h =>
    have h0 : unE (List.replicate 256 0) = 0 := by
      cases e : decide (unE (List.replicate 256 0) = 0) with
      | true => exact of_decide_eq_true e
      | false => exact absurd (.inl (of_decide_eq_false e)) h
    unfold unE at h0
    split at h0
    · next ho =>
      unfold unD
      rw [if_pos ho, List.drop_replicate]
      rfl
    · cases h0
theorem put_lk : ∀ {S : PgL}, SrtS S → ∀ (g : Int → List UInt8) (p : Int), putAll g S p = (lkS S p).getD (g p) := fun {S} hs g p => by
  have hn : (S.map (·.1)).Nodup := (List.pairwise_map.2 hs : (S.map (·.1)).Pairwise (· < ·)).imp fun h => by omega
  cases h : lkS S p with
  | none =>
    have := lk_in.1 h
    rw [putAll_no _ _ (fun x hx e => this (by rw [← e]; exact List.mem_map_of_mem hx))]
    rfl
  | some d =>
    have hm : (p, d) ∈ S := by
      clear hn hs
      induction S with
      | nil => cases h
      | cons x t ih =>
        have h : (if p = x.1 then some x.2 else lkS t p) = some d := h
        by_cases e : p = x.1
        · rw [if_pos e] at h
          cases h
          rw [e]
          exact List.mem_cons_self
        · rw [if_neg e] at h
          exact List.mem_cons_of_mem _ (ih h)
    exact putAll_yes hn hm g
theorem srt_len {n : Int} {S : PgL} (hs : SrtS S) (ho : OkS n S) : (S.length : Int) ≤ pagesN n := by
  have hn : (S.map (·.1)).Nodup := (List.pairwise_map.2 hs : (S.map (·.1)).Pairwise (· < ·)).imp fun h => by omega
  have hle := pagesN_le n
  have := nodup_le (pagesN n).toNat _ hn fun x hx => by
    obtain ⟨p, hp, rfl⟩ := List.mem_map.1 hx
    have := isPg_iff.1 (ho p hp).1
    omega
  rw [List.length_map] at this
  omega
/-- What is there behind the first commit. -/
structure After (n : Int) (S : PgL) (s : DS) : Prop where
  up : Up s
  size : s.size = n
  writes : s.writes ≤ 200000
  pg : ∀ p, isPg n p = true → pgOf n (secB s) p = (lkS S p).getD zeros240
theorem commit_pg {n : Int} {s : DS} {S : PgL} (hf : Fresh n s) (hs : SrtS S) (ho : OkS n S) : ∃ s' q', commitS dsO s 1 S = (s', 0, q') ∧ After n S s' := by
  by_cases h0 : S = []
  · subst h0
    exact ⟨s, 1, commit_none s 1, hf.up, hf.size, by rw [hf.writes]; decide, fun p hp => fresh_zero hf hp⟩
  · have hl := srt_len hs ho
    have hle := pagesN_le n
    have hn : (S.map (·.1)).Nodup := (List.pairwise_map.2 hs : (S.map (·.1)).Pairwise (· < ·)).imp fun h => by omega
    have hI : Ims n (1 + 1) S := ⟨ho, hn, hl, by decide⟩
    have hsz := hf.size
    have hwr := hf.writes
    have huw := hf.wf
    obtain ⟨s', c1, c2, c3, c4, c5, c6, c7⟩ := commit_to (s := s) (q := 1) (by rw [hsz]; exact hI) h0 hf.up huw (by omega)
    rw [hsz] at c5 c6
    refine ⟨s', _, c1, c2, c5, by omega, fun p hp => ?_⟩
    rw [pg_done hI c6 hp, put_lk hs, fresh_zero hf hp]
theorem After.get {n : Int} {S : PgL} {s : DS} (h : After n S s) {p : Int} (hp : isPg n p = true) : pgE dsO s [] p = 0 ∧ pgD dsO s [] p = (lkS S p).getD zeros240 := by
  obtain ⟨e1, e2⟩ := load_c h.up.down (p := p) (by rw [h.size]; exact hp)
  refine ⟨e1, e2.trans ?_⟩
  rw [h.size]
  exact h.pg p hp
theorem ps_yes {n : Int} {S : PgL} {p : Int} {d : List UInt8} (h1 : isPg n p = true) (h2 : d.length = 240) : psE n p d = 0 ∧ psS n S p d = insS S p d := by
  unfold psE psS
  rw [if_pos ⟨h1, h2⟩, if_pos ⟨h1, h2⟩]
  exact ⟨rfl, rfl⟩
theorem Moves.row {D F D' F' : Heap} (h : Moves D F D' F') {A : Option Addr} {vs : List Value} (hr : RowAt F A vs) (hd : ∀ a, A = some a → D a.block = none) : RowAt F' A vs := fun j v hj => by
  obtain ⟨a, e, hc⟩ := hr j v hj
  obtain ⟨c, ee, fz, h3, h4, h5⟩ := cell_block hc
  refine ⟨a, e, ?_⟩
  have h6 := h.out _ _ h3 (by rw [add_block]; exact hd a e)
  unfold Heap.cell?
  rw [h6]
  simp only [h4, Option.isSome_none, Bool.false_eq_true, if_false]
  exact h5
theorem rep_cell {F : Heap} {ua : Addr} {x : UInt8} {d : List UInt8} (hd : List.replicate 240 x = d) (hr : RowAt F (some ua) (bytesOf d)) : F.cell? (ua.add (0 * 1)) = some (.int .u8 x.toNat) := by
  subst hd
  have hcell := byte_cell hr (j := 0) (by rw [List.length_replicate]; decide)
  rw [List.getElem_replicate] at hcell
  exact hcell
theorem awake7 (F : Heap) (hN : NibAt F) : FnK Tryz.prog 7 #[] F (fun v F' => v = .bool true ∧ Ext F F') := by
  have kf := fresh7 (n := 9) (by decide) (by decide) F hN
  have hl7 : (List.replicate 240 (7 : UInt8)).length = 240 := List.length_replicate
  have hl8 : (List.replicate 240 (8 : UInt8)).length = 240 := List.length_replicate
  have p9 : isPg 9 1 = true := by decide
  have kp7 := fun F => page7 7 F
  have kp8 := fun F => page7 8 F
  generalize hd7 : List.replicate 240 (7 : UInt8) = d7 at kp7 hl7
  generalize hd8 : List.replicate 240 (8 : UInt8) = d8 at kp8 hl8
  (refine fn_walk tab_ok Tryz.func7 rfl rfl rfl rfl ?_; (conv => whnf))
  refine call_of kf ?_
  rintro v F2 ⟨pb, xb, D, X, s, r, rfl, E2, H2, aD, aX, P2, R2, S2, ff⟩
  refine short [0, 8] [.bool false, .tuple #[.pointer (some ⟨pb, 0, none⟩), .pointer (some ⟨xb, 0, none⟩)]] rfl fun ρ => ?_
  ((conv => whnf); repeat (first | (apply load_at; (conv => lhs; whnf); (with_reducible assumption); rfl; (conv => whnf)) | (apply load_at; (conv => lhs; rw [add_plain, add_plain]); (with_reducible assumption); rfl; (conv => whnf)) | (apply loads_at; (conv => lhs; whnf); (with_reducible assumption); rfl; (conv => whnf)) | (refine ⟨⟨by omega, by omega⟩, ?_⟩; (conv => whnf))))
  refine call_of (kp7 F2) ?_
  rintro v F3 ⟨⟨A3, c3, rfl, _, hr3, _⟩, hE3⟩
  have hD3 := H2.d.trans hE3
  have E3 := E2.trans hE3
  have ks := pgSet hD3 P2 d7 A3 c3 hr3 (by omega) 1
  obtain ⟨e1, e2⟩ := ps_yes (n := s.size) (S := []) (p := 1) (d := d7) (by rw [ff.size]; exact p9) hl7
  rw [e1, e2, hl7] at ks
  clear e1 e2
  refine short [0, 1, 13, 14, 15] [.bool false, .pointer (some ⟨pb, 0, none⟩), .bool false, .pointer (some ⟨pb, 0, none⟩), .slice A3 d7.length c3] rfl fun ρ => ?_
  rw [hl7]
  ((conv => whnf); repeat (first | (apply load_at; (conv => lhs; whnf); (with_reducible assumption); rfl; (conv => whnf)) | (apply load_at; (conv => lhs; rw [add_plain, add_plain]); (with_reducible assumption); rfl; (conv => whnf)) | (apply loads_at; (conv => lhs; whnf); (with_reducible assumption); rfl; (conv => whnf)) | (refine ⟨⟨by omega, by omega⟩, ?_⟩; (conv => whnf))))
  refine call_of ks ?_
  rintro v F4 ⟨rfl, D4, M4, P4⟩
  have E4 := M4.keep E3 aD
  have aD4 := M4.apart E3 aD
  have kc := pgCommit M4.inn P4 E4 aD4 hN (by show 1 ≤ _; decide) (by have := ff.writes; omega)
  obtain ⟨s5, q5, c1, c2⟩ := commit_pg ff P4.1 (by have := P4.2.1; rwa [ff.size] at this)
  rw [c1] at kc
  replace kc : FnK Tryz.prog 10 #[.pointer (some ⟨pb, 0, none⟩)] F4 (fun v F' => v = .int .i64 0 ∧ ∃ D', Moves D4 F4 D' F' ∧ Pg D' pb s5 q5 []) := kc
  refine short [0, 1, 13, 16] [.bool false, .pointer (some ⟨pb, 0, none⟩), .bool false, .int .i64 0] rfl fun ρ => ?_
  ((conv => whnf); repeat (first | (apply load_at; (conv => lhs; whnf); (with_reducible assumption); rfl; (conv => whnf)) | (apply load_at; (conv => lhs; rw [add_plain, add_plain]); (with_reducible assumption); rfl; (conv => whnf)) | (apply loads_at; (conv => lhs; whnf); (with_reducible assumption); rfl; (conv => whnf)) | (refine ⟨⟨by omega, by omega⟩, ?_⟩; (conv => whnf))))
  refine call_of kc ?_
  rintro v F5 ⟨rfl, D5, M5, P5⟩
  have E5 := M5.keep E4 aD4
  have aD5 := M5.apart E4 aD4
  refine short [0, 1, 19, 21] [.bool false, .pointer (some ⟨pb, 0, none⟩), .bool false, .int .i64 0] rfl fun ρ => ?_
  ((conv => whnf); repeat (first | (apply load_at; (conv => lhs; whnf); (with_reducible assumption); rfl; (conv => whnf)) | (apply load_at; (conv => lhs; rw [add_plain, add_plain]); (with_reducible assumption); rfl; (conv => whnf)) | (apply loads_at; (conv => lhs; whnf); (with_reducible assumption); rfl; (conv => whnf)) | (refine ⟨⟨by omega, by omega⟩, ?_⟩; (conv => whnf))))
  refine call_of (kp8 F5) ?_
  rintro v F6 ⟨⟨A6, c6, rfl, _, hr6, _⟩, hE6⟩
  have hD6 := M5.inn.trans hE6
  have E6 := E5.trans hE6
  have ks := pgSet hD6 P5 d8 A6 c6 hr6 (by omega) 1
  obtain ⟨e1, e2⟩ := ps_yes (n := s5.size) (S := []) (p := 1) (d := d8) (by rw [c2.size]; exact p9) hl8
  rw [e1, e2, hl8] at ks
  clear e1 e2
  refine short [0, 1, 24, 25, 26] [.bool false, .pointer (some ⟨pb, 0, none⟩), .bool false, .pointer (some ⟨pb, 0, none⟩), .slice A6 d8.length c6] rfl fun ρ => ?_
  rw [hl8]
  ((conv => whnf); repeat (first | (apply load_at; (conv => lhs; whnf); (with_reducible assumption); rfl; (conv => whnf)) | (apply load_at; (conv => lhs; rw [add_plain, add_plain]); (with_reducible assumption); rfl; (conv => whnf)) | (apply loads_at; (conv => lhs; whnf); (with_reducible assumption); rfl; (conv => whnf)) | (refine ⟨⟨by omega, by omega⟩, ?_⟩; (conv => whnf))))
  refine call_of ks ?_
  rintro v F7 ⟨rfl, D7, M7, P7⟩
  have E7 := M7.keep E6 aD5
  have aD7 := M7.apart E6 aD5
  have kg := pgGet M7.inn P7 (hN.mono E7) 1
  have g1 : pgE dsO s5 (insS [] 1 d8) 1 = 0 ∧ pgD dsO s5 (insS [] 1 d8) 1 = d8 := ⟨rfl, rfl⟩
  rw [g1.1, g1.2] at kg
  refine short [0, 1, 24, 27] [.bool false, .pointer (some ⟨pb, 0, none⟩), .bool false, .int .i64 0] rfl fun ρ => ?_
  ((conv => whnf); repeat (first | (apply load_at; (conv => lhs; whnf); (with_reducible assumption); rfl; (conv => whnf)) | (apply load_at; (conv => lhs; rw [add_plain, add_plain]); (with_reducible assumption); rfl; (conv => whnf)) | (apply loads_at; (conv => lhs; whnf); (with_reducible assumption); rfl; (conv => whnf)) | (refine ⟨⟨by omega, by omega⟩, ?_⟩; (conv => whnf))))
  refine call_of kg ?_
  rintro v F8 ⟨u, rfl, ⟨A8, c8, rfl, hc8, hr8, f8⟩, hE8⟩
  have hD8 := M7.inn.trans hE8
  have E8 := E7.trans hE8
  refine short [0, 1, 32] [.bool false, .pointer (some ⟨pb, 0, none⟩), .tuple #[.slice A8 d8.length c8, .int .i64 0]] rfl fun ρ => ?_
  ((conv => whnf); repeat (first | (apply load_at; (conv => lhs; whnf); (with_reducible assumption); rfl; (conv => whnf)) | (apply load_at; (conv => lhs; rw [add_plain, add_plain]); (with_reducible assumption); rfl; (conv => whnf)) | (apply loads_at; (conv => lhs; whnf); (with_reducible assumption); rfl; (conv => whnf)) | (refine ⟨⟨by omega, by omega⟩, ?_⟩; (conv => whnf))))
  refine call_of (pgAbort hD8 P7) ?_
  rintro v F9 ⟨rfl, D9, M9, P9⟩
  have hr9 := Moves.row M9 hr8 (fun a ha => M7.inn.none (f8 a ha))
  have E9 := M9.keep E8 aD7
  have kg := pgGet M9.inn P9 (hN.mono E9) 1
  obtain ⟨g1, g2⟩ := c2.get p9
  rw [g1, g2] at kg
  replace kg : FnK Tryz.prog 12 #[.pointer (some ⟨pb, 0, none⟩), .int .i64 1] F9 (fun v F' => ∃ u, v = .tuple #[u, .int .i64 0] ∧ NewRow F9 F' u d7 ∧ Ext F9 F') := kg
  refine short [0, 1, 3, 36] [.bool false, .pointer (some ⟨pb, 0, none⟩), .slice A8 d8.length c8, .tuple #[]] rfl fun ρ => ?_
  ((conv => whnf); repeat (first | (apply load_at; (conv => lhs; whnf); (with_reducible assumption); rfl; (conv => whnf)) | (apply load_at; (conv => lhs; rw [add_plain, add_plain]); (with_reducible assumption); rfl; (conv => whnf)) | (apply loads_at; (conv => lhs; whnf); (with_reducible assumption); rfl; (conv => whnf)) | (refine ⟨⟨by omega, by omega⟩, ?_⟩; (conv => whnf))))
  refine call_of kg ?_
  rintro v F10 ⟨u, rfl, ⟨A10, c10, rfl, hc10, hr10, _⟩, hE10⟩
  have E10 := E9.trans hE10
  replace hr9 := hr9.mono hE10
  rw [hl7] at hc10
  rw [hl8] at hc8
  obtain ⟨a8, rfl⟩ := hr9.some (by rw [bytes_len, hl8]; decide)
  obtain ⟨a10, rfl⟩ := hr10.some (by rw [bytes_len, hl7]; decide)
  have cl8 := rep_cell hd8 hr9
  have cl10 := rep_cell hd7 hr10
  refine short [0, 3, 39] [.bool false, .slice (some a8) d8.length c8, .tuple #[.slice (some a10) d7.length c10, .int .i64 0]] rfl fun ρ => ?_
  rw [hl7, hl8]
  ((conv => whnf); repeat (first | (apply load_at; (conv => lhs; whnf); (with_reducible assumption); rfl; (conv => whnf)) | (apply load_at; (conv => lhs; rw [add_plain, add_plain]); (with_reducible assumption); rfl; (conv => whnf)) | (apply loads_at; (conv => lhs; whnf); (with_reducible assumption); rfl; (conv => whnf)) | (refine ⟨⟨by omega, by omega⟩, ?_⟩; (conv => whnf))))
  refine load_step cl8 ?_
  ((conv => whnf); repeat (first | (apply load_at; (conv => lhs; whnf); (with_reducible assumption); rfl; (conv => whnf)) | (apply load_at; (conv => lhs; rw [add_plain, add_plain]); (with_reducible assumption); rfl; (conv => whnf)) | (apply loads_at; (conv => lhs; whnf); (with_reducible assumption); rfl; (conv => whnf)) | (refine ⟨⟨by omega, by omega⟩, ?_⟩; (conv => whnf))))
  refine load_step cl10 ?_
  ((conv => whnf); repeat (first | (apply load_at; (conv => lhs; whnf); (with_reducible assumption); rfl; (conv => whnf)) | (apply load_at; (conv => lhs; rw [add_plain, add_plain]); (with_reducible assumption); rfl; (conv => whnf)) | (apply loads_at; (conv => lhs; whnf); (with_reducible assumption); rfl; (conv => whnf)) | (refine ⟨⟨by omega, by omega⟩, ?_⟩; (conv => whnf))))
  exact ⟨rfl, E10⟩
end Go.Proofs.YtmpiggcooboenaaGreatDoor.Al
/- Pagers: the laws' rows of calls; a row of sixteen bytes beside a pager. -/
namespace Go.Proofs.YtmpiggcooboenaaGreatDoor.Al
open Go Go.Al Go.Proofs Go.RowKit
set_option maxHeartbeats 8000000
set_option maxRecDepth 100000
set_option linter.unusedVariables false
set_option linter.unusedSimpArgs false
structure PoR where
  op : Int
  i : Int
  x : UInt8
def poC (r : PoR) : List Value := [.int .i64 r.op, .int .i64 r.i, .int .u8 r.x.toNat]
theorem poC_len (r : PoR) : (poC r).length = 3 := rfl
theorem po_one (r : PoR) : ∀ v ∈ poC r, v.oneCell' = true := by simp [poC, Value.oneCell']
abbrev poWf : (Int × (Int × Int)) → Prop := fun p => (fun n => (Lit.int .i64 n).wf = true) p.1 ∧ (fun p => (fun n => (Lit.int .i64 n).wf = true) p.1 ∧ (fun n => (Lit.int .u8 n).wf = true) p.2) p.2
theorem po_open {F : Heap} {A : Option Addr} {xs : List (Int × (Int × Int))} (w : ∀ x ∈ xs, poWf x) (h : Elems F A 3 (kPair 1 (kInt .i64) (kPair 1 (kInt .i64) (kInt .u8))) xs) : ∃ rs : List PoR, rs.length = xs.length ∧ RowAt F A (rowS poC rs) := by
  obtain ⟨rs, h1, h2, _⟩ := rowS_open (f := poC) (Q := fun _ _ => True) poC_len (by decide) w h (by
    rintro ⟨op, i, x⟩ c hw hK
    obtain ⟨c1, d1, rfl, hl1, rfl, c2, d2, rfl, hl2, rfl, rfl⟩ := hK
    obtain ⟨l, hl⟩ := bytes_of_wf (xs := [x]) (by intro y hy; rw [List.mem_singleton.1 hy]; exact hw.2.2)
    match l, hl with
    | [b], hl =>
      obtain rfl : x = (b.toNat : Int) := by simpa using hl
      exact ⟨⟨op, i, b⟩, rfl, trivial⟩)
  exact ⟨rs, h1, h2⟩
abbrev poZ : Obj := .cells #[.int .i64 0, .int .i64 0, .int .u8 0] 30
theorem pand15 (a : Int) : ∃ m : Nat, m < 16 ∧ IntKind.i64.wrap ((BitVec.ofInt IntKind.i64.bits a &&& BitVec.ofInt IntKind.i64.bits 15).toNat : Int) = (m : Int) := by
  have h : (BitVec.ofInt IntKind.i64.bits a &&& BitVec.ofInt IntKind.i64.bits 15).toNat ≤ 15 := by
    rw [BitVec.toNat_and]
    exact Nat.and_le_right
  generalize (BitVec.ofInt IntKind.i64.bits a &&& BitVec.ofInt IntKind.i64.bits 15).toNat = v at h
  exact ⟨v, by omega, wrap_eq (by omega) (by omega)⟩
/-- The bytes that are wanted. -/
structure WantR (S : PgL) (wl : List UInt8) : Prop where
  len : wl.length = 16
  at_ : ∀ i : Nat, i < 16 → (lkS S (i : Int)).getD zeros240 = List.replicate 240 ((wl[i]?).getD 0)
theorem WantR.nil : WantR [] (List.replicate 16 0) := ⟨List.length_replicate, fun i hi => by
  rw [List.getElem?_replicate, if_pos hi]
  rfl⟩
theorem WantR.set {S : PgL} {wl : List UInt8} (h : WantR S wl) {m : Nat} (hm : m < 16) (x : UInt8) : WantR (insS S (m : Int) (List.replicate 240 x)) (wl.set m x) := by
  refine ⟨by rw [List.length_set]; exact h.len, fun i hi => ?_⟩
  rw [lk_ins, List.getElem?_set]
  by_cases e : i = m
  · subst e
    rw [if_pos rfl, if_pos rfl, if_pos (by rw [h.len]; exact hm)]
    rfl
  · rw [if_neg (by omega), if_neg (by omega)]
    exact h.at_ i hi
theorem moves_not {D F D' F' : Heap} (h : Moves D F D' F') {w : Nat} {o : Obj} (hd : D w = none) (hf : F w = some o) : D' w = none := by
  cases e : D' w with
  | none => rfl
  | some u =>
    rcases h.new w (by rw [e]; simp) with h1 | h1
    · exact absurd hd h1
    · rw [hf] at h1; cases h1
theorem want_store {wl : List UInt8} {m : Nat} {x : UInt8} : (putL (bytesOf wl).toArray.toList m [Value.int .u8 x.toNat]).toArray = (bytesOf (wl.set m x)).toArray := by
  rw [List.toList_toArray]
  have e : bytesOf (wl.set m x) = (bytesOf wl).set m (Value.int .u8 x.toNat) := by unfold bytesOf; rw [List.map_set]
  rw [e]
  rfl
theorem pg33 : pagesN 33 = 16 := by decide
theorem is33 {i : Nat} (h : i < 16) : isPg 33 (i : Int) = true := isPg_iff.2 (by rw [pg33]; omega)
end Go.Proofs.YtmpiggcooboenaaGreatDoor.Al

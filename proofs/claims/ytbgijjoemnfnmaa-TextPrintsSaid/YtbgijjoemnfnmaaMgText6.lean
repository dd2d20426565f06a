/- Texts of this claim, joined: TxtV TxtW TxtX TxtY TxtZ TxtLaw TxtLaw2 TxtCmds TxtAwake TxtEnd. -/
import Derived.Test.YtbgijjoemnfnmaaMgText1
import Derived.Test.YtbgijjoemnfnmaaMgText2
import Derived.Test.YtbgijjoemnfnmaaMgText3
import Derived.Test.YtbgijjoemnfnmaaMgText4
import Derived.Test.YtbgijjoemnfnmaaMgText5
/- exchequerref48.num and field. -/
namespace Go.Proofs.Ytbgijjoemnfnmaa.Al
open Go Go.Al Go.Proofs Go.RowKit
set_option maxHeartbeats 8000000
set_option maxRecDepth 100000
set_option linter.unusedVariables false
set_option linter.unusedSimpArgs false
theorem rnums (l : List Int) (hR : ∀ n ∈ l, R64 n) (A : Option Addr) (c : Nat) (F : Heap) (hr : RowAt F A (l.map (.int .i64))) (hl : l.length ≤ 1000000) :
    FnK Try.prog 58 #[.slice A l.length c] F (fun v F' => Mine F F' v 9 1 (l.map txt).length (txV (l.map txt))) := by
  (refine fn_walk tab_ok Try.func58 rfl rfl rfl rfl ?_; (conv => whnf))
  refine loop_slots [0, 3, 4] (fun k vs F' => ∃ (j : Nat) (S : Value), j + k = l.length ∧ vs = [.slice A l.length c, S, .int .i64 (j : Int)] ∧ Mine F F' S 9 1 ((l.take j).map txt).length (txV ((l.take j).map txt))) l.length ⟨0, _, by omega, rfl, Mine.nil _ _ _ _ (Ext.refl F)⟩ ?_
  rintro k vs F2 ρ ⟨j, S, hjk, rfl, hM⟩
  ((conv => whnf); repeat (first | (apply load_at; (conv => lhs; whnf); (with_reducible assumption); rfl; (conv => whnf)) | (apply load_at; (conv => lhs; rw [add_plain, add_plain]); (with_reducible assumption); rfl; (conv => whnf)) | (apply loads_at; (conv => lhs; whnf); (with_reducible assumption); rfl; (conv => whnf)) | (refine ⟨⟨by omega, by omega⟩, ?_⟩; (conv => whnf))))
  refine cond_split (fun h => ?_) (fun h => ?_)
  · have hj : j < l.length := by have := of_decide_eq_true h; omega
    obtain ⟨ad, rfl⟩ := hr.some (by rw [List.length_map]; omega)
    have hws : IntKind.i64.wrap ((j : Int) + 1) = ((j + 1 : Nat) : Int) := wrap_succ (by omega)
    have hc : F2.cell? (ad.add (Int.toNat (j : Int) * 1)) = some (.int .i64 l[j]) := by
      rw [Int.toNat_natCast, Nat.mul_one]
      exact (hr.mono hM.ext).cell (by rw [List.getElem?_map, List.getElem?_eq_getElem hj]; rfl)
    have htk : (l.take (j + 1)).map txt = (l.take j).map txt ++ [txt l[j]] := by
      rw [List.take_add_one, List.getElem?_eq_getElem hj, List.map_append]
      rfl
    have hn := hR l[j] (List.getElem_mem hj)
    generalize l[j] = n at hc htk hn
    have ht := fun F => rtext n hn.1 hn.2 F
    generalize txt n = t at ht htk
    have hcl : ((l.take j).map txt).length ≤ 1000000 := by rw [List.length_map, List.length_take]; omega
    obtain ⟨cur, hcur⟩ : ∃ cur, cur = (l.take j).map txt := ⟨_, rfl⟩
    rw [← hcur] at hM hcl htk
    ((conv => whnf); repeat (first | (apply load_at; (conv => lhs; whnf); (with_reducible assumption); rfl; (conv => whnf)) | (apply load_at; (conv => lhs; rw [add_plain, add_plain]); (with_reducible assumption); rfl; (conv => whnf)) | (apply loads_at; (conv => lhs; whnf); (with_reducible assumption); rfl; (conv => whnf)) | (refine ⟨⟨by omega, by omega⟩, ?_⟩; (conv => whnf))))
    refine load_step hc ?_
    ((conv => whnf); repeat (first | (apply load_at; (conv => lhs; whnf); (with_reducible assumption); rfl; (conv => whnf)) | (apply load_at; (conv => lhs; rw [add_plain, add_plain]); (with_reducible assumption); rfl; (conv => whnf)) | (apply loads_at; (conv => lhs; whnf); (with_reducible assumption); rfl; (conv => whnf)) | (refine ⟨⟨by omega, by omega⟩, ?_⟩; (conv => whnf))))
    refine call_of (ht F2) ?_
    rintro v F3 ⟨rfl, rfl⟩
    ((conv => whnf); repeat (first | (apply load_at; (conv => lhs; whnf); (with_reducible assumption); rfl; (conv => whnf)) | (apply load_at; (conv => lhs; rw [add_plain, add_plain]); (with_reducible assumption); rfl; (conv => whnf)) | (apply loads_at; (conv => lhs; whnf); (with_reducible assumption); rfl; (conv => whnf)) | (refine ⟨⟨by omega, by omega⟩, ?_⟩; (conv => whnf))))
    refine new_step (.cells #[str t] 9) rfl fun g h0_g => ?_
    have hE_g := Ext.new h0_g (.cells #[str t] 9)
    have hB_g := Heap.put_same F3 g (.cells #[str t] 9)
    generalize F3.put g _ = F4 at hE_g hB_g ⊢
    have hM4 := hM.mono hE_g
    ((conv => whnf); repeat (first | (apply load_at; (conv => lhs; whnf); (with_reducible assumption); rfl; (conv => whnf)) | (apply load_at; (conv => lhs; rw [add_plain, add_plain]); (with_reducible assumption); rfl; (conv => whnf)) | (apply loads_at; (conv => lhs; whnf); (with_reducible assumption); rfl; (conv => whnf)) | (refine ⟨⟨by omega, by omega⟩, ?_⟩; (conv => whnf))))
    refine append_mine tab_ok rfl rfl rfl rfl rfl ⟨_, rfl, fun k h => by cases h⟩ ⟨_, rfl, rfl⟩ (by decide) hM4 (m := 1) (ys := [str t]) (y := .slice (some ⟨g, 0, none⟩) 1 1) ⟨rfl, .inl ⟨_, _, rfl, row_blk hB_g⟩⟩ (one_str _) (by show 2 * (cur.length + 1) * 16 ≤ _; omega) fun S5 F5 hM5 hk5 => ?_
    ((conv => whnf); repeat (first | (apply load_at; (conv => lhs; whnf); (with_reducible assumption); rfl; (conv => whnf)) | (apply load_at; (conv => lhs; rw [add_plain, add_plain]); (with_reducible assumption); rfl; (conv => whnf)) | (apply loads_at; (conv => lhs; whnf); (with_reducible assumption); rfl; (conv => whnf)) | (refine ⟨⟨by omega, by omega⟩, ?_⟩; (conv => whnf))))
    refine ⟨k - 1, by omega, j + 1, S5, by omega, ?_, by rw [htk, List.length_append, List.length_singleton, txV_app]; exact hM5⟩
    rw [← hws]
    rfl
  · have hj : j = l.length := by have := of_decide_eq_false h; omega
    rw [hj, List.take_length] at hM
    ((conv => whnf); repeat (first | (apply load_at; (conv => lhs; whnf); (with_reducible assumption); rfl; (conv => whnf)) | (apply load_at; (conv => lhs; rw [add_plain, add_plain]); (with_reducible assumption); rfl; (conv => whnf)) | (apply loads_at; (conv => lhs; whnf); (with_reducible assumption); rfl; (conv => whnf)) | (refine ⟨⟨by omega, by omega⟩, ?_⟩; (conv => whnf))))
    exact hM
theorem append_app {F0 F' : Heap} {S : Value} {a b : List (List UInt8)} (h : Mine F0 F' S 9 1 (a.length + b.length) (txV a ++ txV b)) : Mine F0 F' S 9 1 (a ++ b).length (txV (a ++ b)) := by
  rw [List.length_append, txV_app]
  exact h
theorem hone_tx (ws : List (List UInt8)) : ∀ v ∈ txV ws, v.oneCell' = true := by
  intro v hv
  unfold txV at hv
  obtain ⟨w, _, rfl⟩ := List.mem_map.1 hv
  rfl
theorem rfield10 (cd : CD) (A : Option Addr) (c : Nat) (F : Heap) : FnK Try.prog 43 #[aggOf cd A c, .int .u8 84] F (fun v F' => Mine F F' v 9 1 (fieldW cd 10).length (txV (fieldW cd 10))) := by
  obtain ⟨k, y, x, f, o, n, p, d, l, a, ab, nm, ls⟩ := cd
  show FnK _ _ _ _ (fun v F' => Mine F F' v 9 1 [nm].length (txV [nm]))
  (refine fn_walk tab_ok Try.func43 rfl rfl rfl rfl ?_; (conv => whnf))
  refine new_step (cmdO k y x f o n p d l a ab ⟨nm.toArray⟩ (.slice A ls.length c)) rfl fun b h0_b => ?_
  have hE_b := Ext.new h0_b (cmdO k y x f o n p d l a ab ⟨nm.toArray⟩ (.slice A ls.length c))
  have hB_b := Heap.put_same F b (cmdO k y x f o n p d l a ab ⟨nm.toArray⟩ (.slice A ls.length c))
  generalize F.put b _ = F1 at hE_b hB_b ⊢
  ((conv => whnf); repeat (first | (apply load_at; (conv => lhs; whnf); (with_reducible assumption); rfl; (conv => whnf)) | (apply load_at; (conv => lhs; rw [add_plain, add_plain]); (with_reducible assumption); rfl; (conv => whnf)) | (apply loads_at; (conv => lhs; whnf); (with_reducible assumption); rfl; (conv => whnf)) | (refine ⟨⟨by omega, by omega⟩, ?_⟩; (conv => whnf))))
  refine new_step (.cells #[str nm] 9) rfl fun g h0_g => ?_
  have hE_g := Ext.new h0_g (.cells #[str nm] 9)
  have hB_g := Heap.put_same F1 g (.cells #[str nm] 9)
  generalize F1.put g _ = F2 at hE_g hB_g ⊢
  ((conv => whnf); repeat (first | (apply load_at; (conv => lhs; whnf); (with_reducible assumption); rfl; (conv => whnf)) | (apply load_at; (conv => lhs; rw [add_plain, add_plain]); (with_reducible assumption); rfl; (conv => whnf)) | (apply loads_at; (conv => lhs; whnf); (with_reducible assumption); rfl; (conv => whnf)) | (refine ⟨⟨by omega, by omega⟩, ?_⟩; (conv => whnf))))
  exact mine_blk (hE_b.trans hE_g) (hE_b.none h0_g) hB_g rfl (Nat.le_refl 1)
theorem rfield9 (cd : CD) (A : Option Addr) (c : Nat) (F : Heap) : FnK Try.prog 43 #[aggOf cd A c, .int .u8 72] F (fun v F' => Mine F F' v 9 1 (fieldW cd 9).length (txV (fieldW cd 9))) := by
  obtain ⟨k, y, x, f, o, n, p, d, l, a, ab, nm, ls⟩ := cd
  cases ab with
  | true =>
    show FnK _ _ _ _ (fun v F' => Mine F F' v 9 1 [yesL].length (txV [yesL]))
    (refine fn_walk tab_ok Try.func43 rfl rfl rfl rfl ?_; (conv => whnf))
    refine new_step (cmdO k y x f o n p d l a true ⟨nm.toArray⟩ (.slice A ls.length c)) rfl fun b h0_b => ?_
    have hE_b := Ext.new h0_b (cmdO k y x f o n p d l a true ⟨nm.toArray⟩ (.slice A ls.length c))
    have hB_b := Heap.put_same F b (cmdO k y x f o n p d l a true ⟨nm.toArray⟩ (.slice A ls.length c))
    generalize F.put b _ = F1 at hE_b hB_b ⊢
    ((conv => whnf); repeat (first | (apply load_at; (conv => lhs; whnf); (with_reducible assumption); rfl; (conv => whnf)) | (apply load_at; (conv => lhs; rw [add_plain, add_plain]); (with_reducible assumption); rfl; (conv => whnf)) | (apply loads_at; (conv => lhs; whnf); (with_reducible assumption); rfl; (conv => whnf)) | (refine ⟨⟨by omega, by omega⟩, ?_⟩; (conv => whnf))))
    refine new_step (.cells #[str yesL] 9) rfl fun g h0_g => ?_
    have hE_g := Ext.new h0_g (.cells #[str yesL] 9)
    have hB_g := Heap.put_same F1 g (.cells #[str yesL] 9)
    generalize F1.put g _ = F2 at hE_g hB_g ⊢
    ((conv => whnf); repeat (first | (apply load_at; (conv => lhs; whnf); (with_reducible assumption); rfl; (conv => whnf)) | (apply load_at; (conv => lhs; rw [add_plain, add_plain]); (with_reducible assumption); rfl; (conv => whnf)) | (apply loads_at; (conv => lhs; whnf); (with_reducible assumption); rfl; (conv => whnf)) | (refine ⟨⟨by omega, by omega⟩, ?_⟩; (conv => whnf))))
    exact mine_blk (hE_b.trans hE_g) (hE_b.none h0_g) hB_g rfl (Nat.le_refl 1)
  | false =>
    show FnK _ _ _ _ (fun v F' => Mine F F' v 9 1 [noL].length (txV [noL]))
    (refine fn_walk tab_ok Try.func43 rfl rfl rfl rfl ?_; (conv => whnf))
    refine new_step (cmdO k y x f o n p d l a false ⟨nm.toArray⟩ (.slice A ls.length c)) rfl fun b h0_b => ?_
    have hE_b := Ext.new h0_b (cmdO k y x f o n p d l a false ⟨nm.toArray⟩ (.slice A ls.length c))
    have hB_b := Heap.put_same F b (cmdO k y x f o n p d l a false ⟨nm.toArray⟩ (.slice A ls.length c))
    generalize F.put b _ = F1 at hE_b hB_b ⊢
    ((conv => whnf); repeat (first | (apply load_at; (conv => lhs; whnf); (with_reducible assumption); rfl; (conv => whnf)) | (apply load_at; (conv => lhs; rw [add_plain, add_plain]); (with_reducible assumption); rfl; (conv => whnf)) | (apply loads_at; (conv => lhs; whnf); (with_reducible assumption); rfl; (conv => whnf)) | (refine ⟨⟨by omega, by omega⟩, ?_⟩; (conv => whnf))))
    refine new_step (.cells #[str noL] 9) rfl fun g h0_g => ?_
    have hE_g := Ext.new h0_g (.cells #[str noL] 9)
    have hB_g := Heap.put_same F1 g (.cells #[str noL] 9)
    generalize F1.put g _ = F2 at hE_g hB_g ⊢
    ((conv => whnf); repeat (first | (apply load_at; (conv => lhs; whnf); (with_reducible assumption); rfl; (conv => whnf)) | (apply load_at; (conv => lhs; rw [add_plain, add_plain]); (with_reducible assumption); rfl; (conv => whnf)) | (apply loads_at; (conv => lhs; whnf); (with_reducible assumption); rfl; (conv => whnf)) | (refine ⟨⟨by omega, by omega⟩, ?_⟩; (conv => whnf))))
    exact mine_blk (hE_b.trans hE_g) (hE_b.none h0_g) hB_g rfl (Nat.le_refl 1)
theorem rfield11 (cd : CD) (hR : CdR cd) (A : Option Addr) (c : Nat) (F : Heap) (hr : RowAt F A (linesV cd.ls)) (hl : cd.ls.length ≤ 10000) : FnK Try.prog 43 #[aggOf cd A c, .int .u8 42] F (fun v F' => Mine F F' v 9 1 (fieldW cd 11).length (txV (fieldW cd 11))) := by
  obtain ⟨k, y, x, f, o, n, p, d, l, a, ab, nm, ls⟩ := cd
  show FnK _ _ _ _ (fun v F' => Mine F F' v 9 1 (linesW true ls).length (txV (linesW true ls)))
  have hLR := hR.ls
  replace hLR : ∀ q ∈ ls, LnR q := hLR
  replace hr : RowAt F A (linesV ls) := hr
  replace hl : ls.length ≤ 10000 := hl
  (refine fn_walk tab_ok Try.func43 rfl rfl rfl rfl ?_; (conv => whnf))
  refine new_step (cmdO k y x f o n p d l a ab ⟨nm.toArray⟩ (.slice A ls.length c)) rfl fun b h0_b => ?_
  have hE_b := Ext.new h0_b (cmdO k y x f o n p d l a ab ⟨nm.toArray⟩ (.slice A ls.length c))
  have hB_b := Heap.put_same F b (cmdO k y x f o n p d l a ab ⟨nm.toArray⟩ (.slice A ls.length c))
  generalize F.put b _ = F1 at hE_b hB_b ⊢
  ((conv => whnf); repeat (first | (apply load_at; (conv => lhs; whnf); (with_reducible assumption); rfl; (conv => whnf)) | (apply load_at; (conv => lhs; rw [add_plain, add_plain]); (with_reducible assumption); rfl; (conv => whnf)) | (apply loads_at; (conv => lhs; whnf); (with_reducible assumption); rfl; (conv => whnf)) | (refine ⟨⟨by omega, by omega⟩, ?_⟩; (conv => whnf))))
  refine loop_slots [2, 5, 6] (fun m vs F' => ∃ (j : Nat) (S : Value), j + m = ls.length ∧ vs = [.pointer (some ⟨b, 0, none⟩), S, .int .i64 (j : Int)] ∧ Mine F1 F' S 9 1 (linesW true (ls.take j)).length (txV (linesW true (ls.take j)))) ls.length ⟨0, _, by omega, rfl, Mine.nil _ _ _ _ (Ext.refl F1)⟩ ?_
  rintro m vs F2 ρ ⟨j, S, hjm, rfl, hM⟩
  have hb2 := hM.ext _ _ hB_b
  ((conv => whnf); repeat (first | (apply load_at; (conv => lhs; whnf); (with_reducible assumption); rfl; (conv => whnf)) | (apply load_at; (conv => lhs; rw [add_plain, add_plain]); (with_reducible assumption); rfl; (conv => whnf)) | (apply loads_at; (conv => lhs; whnf); (with_reducible assumption); rfl; (conv => whnf)) | (refine ⟨⟨by omega, by omega⟩, ?_⟩; (conv => whnf))))
  refine cond_split (fun h => ?_) (fun h => ?_)
  · have hj : j < ls.length := by have := of_decide_eq_true h; omega
    obtain ⟨ad, rfl⟩ := hr.some (by rw [linesV_len]; omega)
    have hws : IntKind.i64.wrap ((j : Int) + 1) = ((j + 1 : Nat) : Int) := wrap_succ (by omega)
    have hrow := (hr.mono hE_b).mono hM.ext
    have htk := linesW_take true ls j ls[j] (List.getElem?_eq_getElem hj)
    have hlr := hLR ls[j] (List.getElem_mem hj)
    have hlw := linesW_len true (ls.take j)
    rw [List.length_take] at hlw
    have hc := fun q v hq => line_cell hrow hj q v hq
    generalize ls[j] = q at htk hlr hc
    obtain ⟨qf, qo, qn, qa⟩ := q
    obtain ⟨r1, r2, r3, r4⟩ := hlr
    have c0 := hc 0 (.int .i64 qf) rfl
    have c1 := hc 1 (.int .i64 qo) rfl
    have c2 := hc 2 (.int .i64 qn) rfl
    have c3 := hc 3 (.int .i64 qa) rfl
    replace htk : linesW true (ls.take (j + 1)) = linesW true (ls.take j) ++ ([qf, qo, qa] : List Int).map txt := htk
    obtain ⟨cur, hcur⟩ : ∃ cur, cur = linesW true (ls.take j) := ⟨_, rfl⟩
    have hcl : cur.length ≤ 30000 := by rw [hcur]; omega
    rw [← hcur] at hM htk
    ((conv => whnf); repeat (first | (apply load_at; (conv => lhs; whnf); (with_reducible assumption); rfl; (conv => whnf)) | (apply load_at; (conv => lhs; rw [add_plain, add_plain]); (with_reducible assumption); rfl; (conv => whnf)) | (apply loads_at; (conv => lhs; whnf); (with_reducible assumption); rfl; (conv => whnf)) | (refine ⟨⟨by omega, by omega⟩, ?_⟩; (conv => whnf))))
    refine draw_cut (fun env' F' => ∃ S', env' 2 = .pointer (some ⟨b, 0, none⟩) ∧ env' 6 = .int .i64 (j : Int) ∧ env' 5 = S' ∧ Mine F1 F' S' 9 1 (cur ++ ([qf, qo, qa] : List Int).map txt).length (txV (cur ++ ([qf, qo, qa] : List Int).map txt))) (fun K hK => ?_) ?_
    · refine draw_tree tab_ok (by kernel_rfl) [1000] (DT.row [0, 1, 2, 3, 4, 5, 6, 7, 8, 9, 10, 11, 12, 13, 14, 15, 16, 17, 18, 19, 20, 21, 22] .nil) (by kernel_rfl) ?_
      ((conv => whnf); repeat (first | (apply load_at; (conv => lhs; whnf); (with_reducible assumption); rfl; (conv => whnf)) | (apply load_at; (conv => lhs; rw [add_plain, add_plain]); (with_reducible assumption); rfl; (conv => whnf)) | (apply loads_at; (conv => lhs; whnf); (with_reducible assumption); rfl; (conv => whnf)) | (refine ⟨⟨by omega, by omega⟩, ?_⟩; (conv => whnf))))
      refine load_step c0 ?_
      ((conv => whnf); repeat (first | (apply load_at; (conv => lhs; whnf); (with_reducible assumption); rfl; (conv => whnf)) | (apply load_at; (conv => lhs; rw [add_plain, add_plain]); (with_reducible assumption); rfl; (conv => whnf)) | (apply loads_at; (conv => lhs; whnf); (with_reducible assumption); rfl; (conv => whnf)) | (refine ⟨⟨by omega, by omega⟩, ?_⟩; (conv => whnf))))
      refine load_step c1 ?_
      ((conv => whnf); repeat (first | (apply load_at; (conv => lhs; whnf); (with_reducible assumption); rfl; (conv => whnf)) | (apply load_at; (conv => lhs; rw [add_plain, add_plain]); (with_reducible assumption); rfl; (conv => whnf)) | (apply loads_at; (conv => lhs; whnf); (with_reducible assumption); rfl; (conv => whnf)) | (refine ⟨⟨by omega, by omega⟩, ?_⟩; (conv => whnf))))
      refine load_step c3 ?_
      ((conv => whnf); repeat (first | (apply load_at; (conv => lhs; whnf); (with_reducible assumption); rfl; (conv => whnf)) | (apply load_at; (conv => lhs; rw [add_plain, add_plain]); (with_reducible assumption); rfl; (conv => whnf)) | (apply loads_at; (conv => lhs; whnf); (with_reducible assumption); rfl; (conv => whnf)) | (refine ⟨⟨by omega, by omega⟩, ?_⟩; (conv => whnf))))
      refine new_step (.cells (([qf, qo, qa] : List Int).map (Value.int .i64)).toArray 3) rfl fun g h0_g => ?_
      have hE_g := Ext.new h0_g (.cells (([qf, qo, qa] : List Int).map (Value.int .i64)).toArray 3)
      have hB_g := Heap.put_same F2 g (.cells (([qf, qo, qa] : List Int).map (Value.int .i64)).toArray 3)
      generalize F2.put g _ = F3 at hE_g hB_g ⊢
      have hM3 := hM.mono hE_g
      ((conv => whnf); repeat (first | (apply load_at; (conv => lhs; whnf); (with_reducible assumption); rfl; (conv => whnf)) | (apply load_at; (conv => lhs; rw [add_plain, add_plain]); (with_reducible assumption); rfl; (conv => whnf)) | (apply loads_at; (conv => lhs; whnf); (with_reducible assumption); rfl; (conv => whnf)) | (refine ⟨⟨by omega, by omega⟩, ?_⟩; (conv => whnf))))
      refine call_of (rnums [qf, qo, qa] (by intro n hn; simp only [List.mem_cons, List.not_mem_nil, or_false] at hn; rcases hn with rfl | rfl | rfl <;> assumption) (some ⟨g, 0, none⟩) 3 F3 (row_new hB_g) (by simp only [List.length_cons, List.length_nil]; omega)) ?_
      rintro v F4 hv
      have hM4 := hM3.mono hv.ext
      obtain ⟨A4, c4, rfl, _, hr4⟩ := hv.own.row
      ((conv => whnf); repeat (first | (apply load_at; (conv => lhs; whnf); (with_reducible assumption); rfl; (conv => whnf)) | (apply load_at; (conv => lhs; rw [add_plain, add_plain]); (with_reducible assumption); rfl; (conv => whnf)) | (apply loads_at; (conv => lhs; whnf); (with_reducible assumption); rfl; (conv => whnf)) | (refine ⟨⟨by omega, by omega⟩, ?_⟩; (conv => whnf))))
      refine append_mine tab_ok rfl rfl rfl rfl rfl ⟨_, rfl, fun k h => by cases h⟩ ⟨_, rfl, rfl⟩ (by decide) hM4 (m := 3) (ys := txV (([qf, qo, qa] : List Int).map txt)) (y := .slice A4 3 c4) ⟨rfl, .inl ⟨_, _, rfl, hr4⟩⟩ (hone_tx _) (by show 2 * (cur.length + 3) * 16 ≤ _; omega) fun S5 F5 hM5 hk5 => ?_
      ((conv => whnf); repeat (first | (apply load_at; (conv => lhs; whnf); (with_reducible assumption); rfl; (conv => whnf)) | (apply load_at; (conv => lhs; rw [add_plain, add_plain]); (with_reducible assumption); rfl; (conv => whnf)) | (apply loads_at; (conv => lhs; whnf); (with_reducible assumption); rfl; (conv => whnf)) | (refine ⟨⟨by omega, by omega⟩, ?_⟩; (conv => whnf))))
      refine hK _ _ ?_
      exact ⟨S5, rfl, rfl, rfl, append_app (b := ([qf, qo, qa] : List Int).map txt) hM5⟩
    rintro env' F6 ⟨S', q2, q6, q5, hM6⟩
    refine short [2, 5, 6] [.pointer (some ⟨b, 0, none⟩), S', .int .i64 (j : Int)] (by simp only [List.map_cons, List.map_nil, q2, q5, q6]) fun ρ => ?_
    ((conv => whnf); repeat (first | (apply load_at; (conv => lhs; whnf); (with_reducible assumption); rfl; (conv => whnf)) | (apply load_at; (conv => lhs; rw [add_plain, add_plain]); (with_reducible assumption); rfl; (conv => whnf)) | (apply loads_at; (conv => lhs; whnf); (with_reducible assumption); rfl; (conv => whnf)) | (refine ⟨⟨by omega, by omega⟩, ?_⟩; (conv => whnf))))
    refine ⟨m - 1, by omega, j + 1, S', by omega, congrArg (fun z : Int => [Value.pointer (some ⟨b, 0, none⟩), S', .int .i64 z]) hws, by rw [htk]; exact hM6⟩
  · have hj : j = ls.length := by have := of_decide_eq_false h; omega
    rw [hj, List.take_length] at hM
    ((conv => whnf); repeat (first | (apply load_at; (conv => lhs; whnf); (with_reducible assumption); rfl; (conv => whnf)) | (apply load_at; (conv => lhs; rw [add_plain, add_plain]); (with_reducible assumption); rfl; (conv => whnf)) | (apply loads_at; (conv => lhs; whnf); (with_reducible assumption); rfl; (conv => whnf)) | (refine ⟨⟨by omega, by omega⟩, ?_⟩; (conv => whnf))))
    exact hM.down hE_b
theorem rfield12 (cd : CD) (hR : CdR cd) (A : Option Addr) (c : Nat) (F : Heap) (hr : RowAt F A (linesV cd.ls)) (hl : cd.ls.length ≤ 10000) : FnK Try.prog 43 #[aggOf cd A c, .int .u8 43] F (fun v F' => Mine F F' v 9 1 (fieldW cd 12).length (txV (fieldW cd 12))) := by
  obtain ⟨k, y, x, f, o, n, p, d, l, a, ab, nm, ls⟩ := cd
  show FnK _ _ _ _ (fun v F' => Mine F F' v 9 1 (linesW false ls).length (txV (linesW false ls)))
  have hLR := hR.ls
  replace hLR : ∀ q ∈ ls, LnR q := hLR
  replace hr : RowAt F A (linesV ls) := hr
  replace hl : ls.length ≤ 10000 := hl
  (refine fn_walk tab_ok Try.func43 rfl rfl rfl rfl ?_; (conv => whnf))
  refine new_step (cmdO k y x f o n p d l a ab ⟨nm.toArray⟩ (.slice A ls.length c)) rfl fun b h0_b => ?_
  have hE_b := Ext.new h0_b (cmdO k y x f o n p d l a ab ⟨nm.toArray⟩ (.slice A ls.length c))
  have hB_b := Heap.put_same F b (cmdO k y x f o n p d l a ab ⟨nm.toArray⟩ (.slice A ls.length c))
  generalize F.put b _ = F1 at hE_b hB_b ⊢
  ((conv => whnf); repeat (first | (apply load_at; (conv => lhs; whnf); (with_reducible assumption); rfl; (conv => whnf)) | (apply load_at; (conv => lhs; rw [add_plain, add_plain]); (with_reducible assumption); rfl; (conv => whnf)) | (apply loads_at; (conv => lhs; whnf); (with_reducible assumption); rfl; (conv => whnf)) | (refine ⟨⟨by omega, by omega⟩, ?_⟩; (conv => whnf))))
  refine loop_slots [2, 5, 7] (fun m vs F' => ∃ (j : Nat) (S : Value), j + m = ls.length ∧ vs = [.pointer (some ⟨b, 0, none⟩), S, .int .i64 (j : Int)] ∧ Mine F1 F' S 9 1 (linesW false (ls.take j)).length (txV (linesW false (ls.take j)))) ls.length ⟨0, _, by omega, rfl, Mine.nil _ _ _ _ (Ext.refl F1)⟩ ?_
  rintro m vs F2 ρ ⟨j, S, hjm, rfl, hM⟩
  have hb2 := hM.ext _ _ hB_b
  ((conv => whnf); repeat (first | (apply load_at; (conv => lhs; whnf); (with_reducible assumption); rfl; (conv => whnf)) | (apply load_at; (conv => lhs; rw [add_plain, add_plain]); (with_reducible assumption); rfl; (conv => whnf)) | (apply loads_at; (conv => lhs; whnf); (with_reducible assumption); rfl; (conv => whnf)) | (refine ⟨⟨by omega, by omega⟩, ?_⟩; (conv => whnf))))
  refine cond_split (fun h => ?_) (fun h => ?_)
  · have hj : j < ls.length := by have := of_decide_eq_true h; omega
    obtain ⟨ad, rfl⟩ := hr.some (by rw [linesV_len]; omega)
    have hws : IntKind.i64.wrap ((j : Int) + 1) = ((j + 1 : Nat) : Int) := wrap_succ (by omega)
    have hrow := (hr.mono hE_b).mono hM.ext
    have htk := linesW_take false ls j ls[j] (List.getElem?_eq_getElem hj)
    have hlr := hLR ls[j] (List.getElem_mem hj)
    have hlw := linesW_len false (ls.take j)
    rw [List.length_take] at hlw
    have hc := fun q v hq => line_cell hrow hj q v hq
    generalize ls[j] = q at htk hlr hc
    obtain ⟨qf, qo, qn, qa⟩ := q
    obtain ⟨r1, r2, r3, r4⟩ := hlr
    have c0 := hc 0 (.int .i64 qf) rfl
    have c1 := hc 1 (.int .i64 qo) rfl
    have c2 := hc 2 (.int .i64 qn) rfl
    have c3 := hc 3 (.int .i64 qa) rfl
    replace htk : linesW false (ls.take (j + 1)) = linesW false (ls.take j) ++ ([qn, qa] : List Int).map txt := htk
    obtain ⟨cur, hcur⟩ : ∃ cur, cur = linesW false (ls.take j) := ⟨_, rfl⟩
    have hcl : cur.length ≤ 30000 := by rw [hcur]; omega
    rw [← hcur] at hM htk
    ((conv => whnf); repeat (first | (apply load_at; (conv => lhs; whnf); (with_reducible assumption); rfl; (conv => whnf)) | (apply load_at; (conv => lhs; rw [add_plain, add_plain]); (with_reducible assumption); rfl; (conv => whnf)) | (apply loads_at; (conv => lhs; whnf); (with_reducible assumption); rfl; (conv => whnf)) | (refine ⟨⟨by omega, by omega⟩, ?_⟩; (conv => whnf))))
    refine draw_cut (fun env' F' => ∃ S', env' 2 = .pointer (some ⟨b, 0, none⟩) ∧ env' 7 = .int .i64 (j : Int) ∧ env' 5 = S' ∧ Mine F1 F' S' 9 1 (cur ++ ([qn, qa] : List Int).map txt).length (txV (cur ++ ([qn, qa] : List Int).map txt))) (fun K hK => ?_) ?_
    · refine draw_tree tab_ok (by kernel_rfl) [1000] (DT.row [0, 1, 2, 3, 4, 5, 6, 7, 8, 9, 10, 11, 12, 13, 14, 15, 16] .nil) (by kernel_rfl) ?_
      ((conv => whnf); repeat (first | (apply load_at; (conv => lhs; whnf); (with_reducible assumption); rfl; (conv => whnf)) | (apply load_at; (conv => lhs; rw [add_plain, add_plain]); (with_reducible assumption); rfl; (conv => whnf)) | (apply loads_at; (conv => lhs; whnf); (with_reducible assumption); rfl; (conv => whnf)) | (refine ⟨⟨by omega, by omega⟩, ?_⟩; (conv => whnf))))
      refine load_step c2 ?_
      ((conv => whnf); repeat (first | (apply load_at; (conv => lhs; whnf); (with_reducible assumption); rfl; (conv => whnf)) | (apply load_at; (conv => lhs; rw [add_plain, add_plain]); (with_reducible assumption); rfl; (conv => whnf)) | (apply loads_at; (conv => lhs; whnf); (with_reducible assumption); rfl; (conv => whnf)) | (refine ⟨⟨by omega, by omega⟩, ?_⟩; (conv => whnf))))
      refine load_step c3 ?_
      ((conv => whnf); repeat (first | (apply load_at; (conv => lhs; whnf); (with_reducible assumption); rfl; (conv => whnf)) | (apply load_at; (conv => lhs; rw [add_plain, add_plain]); (with_reducible assumption); rfl; (conv => whnf)) | (apply loads_at; (conv => lhs; whnf); (with_reducible assumption); rfl; (conv => whnf)) | (refine ⟨⟨by omega, by omega⟩, ?_⟩; (conv => whnf))))
      refine new_step (.cells (([qn, qa] : List Int).map (Value.int .i64)).toArray 3) rfl fun g h0_g => ?_
      have hE_g := Ext.new h0_g (.cells (([qn, qa] : List Int).map (Value.int .i64)).toArray 3)
      have hB_g := Heap.put_same F2 g (.cells (([qn, qa] : List Int).map (Value.int .i64)).toArray 3)
      generalize F2.put g _ = F3 at hE_g hB_g ⊢
      have hM3 := hM.mono hE_g
      ((conv => whnf); repeat (first | (apply load_at; (conv => lhs; whnf); (with_reducible assumption); rfl; (conv => whnf)) | (apply load_at; (conv => lhs; rw [add_plain, add_plain]); (with_reducible assumption); rfl; (conv => whnf)) | (apply loads_at; (conv => lhs; whnf); (with_reducible assumption); rfl; (conv => whnf)) | (refine ⟨⟨by omega, by omega⟩, ?_⟩; (conv => whnf))))
      refine call_of (rnums [qn, qa] (by intro n hn; simp only [List.mem_cons, List.not_mem_nil, or_false] at hn; rcases hn with rfl | rfl <;> assumption) (some ⟨g, 0, none⟩) 2 F3 (row_new hB_g) (by simp only [List.length_cons, List.length_nil]; omega)) ?_
      rintro v F4 hv
      have hM4 := hM3.mono hv.ext
      obtain ⟨A4, c4, rfl, _, hr4⟩ := hv.own.row
      ((conv => whnf); repeat (first | (apply load_at; (conv => lhs; whnf); (with_reducible assumption); rfl; (conv => whnf)) | (apply load_at; (conv => lhs; rw [add_plain, add_plain]); (with_reducible assumption); rfl; (conv => whnf)) | (apply loads_at; (conv => lhs; whnf); (with_reducible assumption); rfl; (conv => whnf)) | (refine ⟨⟨by omega, by omega⟩, ?_⟩; (conv => whnf))))
      refine append_mine tab_ok rfl rfl rfl rfl rfl ⟨_, rfl, fun k h => by cases h⟩ ⟨_, rfl, rfl⟩ (by decide) hM4 (m := 2) (ys := txV (([qn, qa] : List Int).map txt)) (y := .slice A4 2 c4) ⟨rfl, .inl ⟨_, _, rfl, hr4⟩⟩ (hone_tx _) (by show 2 * (cur.length + 2) * 16 ≤ _; omega) fun S5 F5 hM5 hk5 => ?_
      ((conv => whnf); repeat (first | (apply load_at; (conv => lhs; whnf); (with_reducible assumption); rfl; (conv => whnf)) | (apply load_at; (conv => lhs; rw [add_plain, add_plain]); (with_reducible assumption); rfl; (conv => whnf)) | (apply loads_at; (conv => lhs; whnf); (with_reducible assumption); rfl; (conv => whnf)) | (refine ⟨⟨by omega, by omega⟩, ?_⟩; (conv => whnf))))
      refine hK _ _ ?_
      exact ⟨S5, rfl, rfl, rfl, append_app (b := ([qn, qa] : List Int).map txt) hM5⟩
    rintro env' F6 ⟨S', q2, q6, q5, hM6⟩
    refine short [2, 5, 7] [.pointer (some ⟨b, 0, none⟩), S', .int .i64 (j : Int)] (by simp only [List.map_cons, List.map_nil, q2, q5, q6]) fun ρ => ?_
    ((conv => whnf); repeat (first | (apply load_at; (conv => lhs; whnf); (with_reducible assumption); rfl; (conv => whnf)) | (apply load_at; (conv => lhs; rw [add_plain, add_plain]); (with_reducible assumption); rfl; (conv => whnf)) | (apply loads_at; (conv => lhs; whnf); (with_reducible assumption); rfl; (conv => whnf)) | (refine ⟨⟨by omega, by omega⟩, ?_⟩; (conv => whnf))))
    refine ⟨m - 1, by omega, j + 1, S', by omega, congrArg (fun z : Int => [Value.pointer (some ⟨b, 0, none⟩), S', .int .i64 z]) hws, by rw [htk]; exact hM6⟩
  · have hj : j = ls.length := by have := of_decide_eq_false h; omega
    rw [hj, List.take_length] at hM
    ((conv => whnf); repeat (first | (apply load_at; (conv => lhs; whnf); (with_reducible assumption); rfl; (conv => whnf)) | (apply load_at; (conv => lhs; rw [add_plain, add_plain]); (with_reducible assumption); rfl; (conv => whnf)) | (apply loads_at; (conv => lhs; whnf); (with_reducible assumption); rfl; (conv => whnf)) | (refine ⟨⟨by omega, by omega⟩, ?_⟩; (conv => whnf))))
    exact hM.down hE_b
theorem rfieldN (fl : Nat) (hf : fl ≤ 8) (cd : CD) (hR : CdR cd) (A : Option Addr) (c : Nat) (F : Heap) : FnK Try.prog 43 #[aggOf cd A c, .int .u8 ((letC fl).toNat : Int)] F (fun v F' => Mine F F' v 9 1 (fieldW cd fl).length (txV (fieldW cd fl))) := by
  have hz := hR.num fl
  have hpl := fun p F => rat fl hf p F
  have hfw : fieldW cd fl = [txt (numF cd fl)] := by
    unfold fieldW
    rw [if_neg (by omega), if_neg (by omega), if_neg (by omega), if_neg (by omega)]
  rw [hfw]
  obtain ⟨k, y, x, f, o, n, p, d, l, a, ab, nm, ls⟩ := cd
  rcases fieldN fl hf with rfl | rfl | rfl | rfl | rfl | rfl | rfl | rfl | rfl
  · replace hz : R64 y := hz
    show FnK _ _ _ _ (fun v F' => Mine F F' v 9 1 (([y] : List Int).map txt).length (txV (([y] : List Int).map txt)))
    (refine fn_walk tab_ok Try.func43 rfl rfl rfl rfl ?_; (conv => whnf))
    refine new_step (cmdO k y x f o n p d l a ab ⟨nm.toArray⟩ (.slice A ls.length c)) rfl fun b h0_b => ?_
    have hE_b := Ext.new h0_b (cmdO k y x f o n p d l a ab ⟨nm.toArray⟩ (.slice A ls.length c))
    have hB_b := Heap.put_same F b (cmdO k y x f o n p d l a ab ⟨nm.toArray⟩ (.slice A ls.length c))
    generalize F.put b _ = F1 at hE_b hB_b ⊢
    ((conv => whnf); repeat (first | (apply load_at; (conv => lhs; whnf); (with_reducible assumption); rfl; (conv => whnf)) | (apply load_at; (conv => lhs; rw [add_plain, add_plain]); (with_reducible assumption); rfl; (conv => whnf)) | (apply loads_at; (conv => lhs; whnf); (with_reducible assumption); rfl; (conv => whnf)) | (refine ⟨⟨by omega, by omega⟩, ?_⟩; (conv => whnf))))
    refine call_of (hpl b F1) ?_
    rintro v F2 ⟨rfl, rfl⟩
    have hB' : F2 b = some (cmdO k y x f o n p d l a ab ⟨nm.toArray⟩ (.slice A ls.length c)) := hB_b
    ((conv => whnf); repeat (first | (apply load_at; (conv => lhs; whnf); (with_reducible assumption); rfl; (conv => whnf)) | (apply load_at; (conv => lhs; rw [add_plain, add_plain]); (with_reducible assumption); rfl; (conv => whnf)) | (apply loads_at; (conv => lhs; whnf); (with_reducible assumption); rfl; (conv => whnf)) | (refine ⟨⟨by omega, by omega⟩, ?_⟩; (conv => whnf))))
    refine new_step (.cells (([y] : List Int).map (Value.int .i64)).toArray 3) rfl fun g h0_g => ?_
    have hE_g := Ext.new h0_g (.cells (([y] : List Int).map (Value.int .i64)).toArray 3)
    have hB_g := Heap.put_same F2 g (.cells (([y] : List Int).map (Value.int .i64)).toArray 3)
    generalize F2.put g _ = F4 at hE_g hB_g ⊢
    ((conv => whnf); repeat (first | (apply load_at; (conv => lhs; whnf); (with_reducible assumption); rfl; (conv => whnf)) | (apply load_at; (conv => lhs; rw [add_plain, add_plain]); (with_reducible assumption); rfl; (conv => whnf)) | (apply loads_at; (conv => lhs; whnf); (with_reducible assumption); rfl; (conv => whnf)) | (refine ⟨⟨by omega, by omega⟩, ?_⟩; (conv => whnf))))
    refine call_of (rnums [y] (by intro n hn; rw [List.mem_singleton.1 hn]; exact hz) (some ⟨g, 0, none⟩) 1 F4 (row_new hB_g) (by simp only [List.length_cons, List.length_nil]; omega)) ?_
    rintro v F6 hM
    ((conv => whnf); repeat (first | (apply load_at; (conv => lhs; whnf); (with_reducible assumption); rfl; (conv => whnf)) | (apply load_at; (conv => lhs; rw [add_plain, add_plain]); (with_reducible assumption); rfl; (conv => whnf)) | (apply loads_at; (conv => lhs; whnf); (with_reducible assumption); rfl; (conv => whnf)) | (refine ⟨⟨by omega, by omega⟩, ?_⟩; (conv => whnf))))
    exact hM.down (hE_b.trans hE_g)
  · replace hz : R64 x := hz
    show FnK _ _ _ _ (fun v F' => Mine F F' v 9 1 (([x] : List Int).map txt).length (txV (([x] : List Int).map txt)))
    (refine fn_walk tab_ok Try.func43 rfl rfl rfl rfl ?_; (conv => whnf))
    refine new_step (cmdO k y x f o n p d l a ab ⟨nm.toArray⟩ (.slice A ls.length c)) rfl fun b h0_b => ?_
    have hE_b := Ext.new h0_b (cmdO k y x f o n p d l a ab ⟨nm.toArray⟩ (.slice A ls.length c))
    have hB_b := Heap.put_same F b (cmdO k y x f o n p d l a ab ⟨nm.toArray⟩ (.slice A ls.length c))
    generalize F.put b _ = F1 at hE_b hB_b ⊢
    ((conv => whnf); repeat (first | (apply load_at; (conv => lhs; whnf); (with_reducible assumption); rfl; (conv => whnf)) | (apply load_at; (conv => lhs; rw [add_plain, add_plain]); (with_reducible assumption); rfl; (conv => whnf)) | (apply loads_at; (conv => lhs; whnf); (with_reducible assumption); rfl; (conv => whnf)) | (refine ⟨⟨by omega, by omega⟩, ?_⟩; (conv => whnf))))
    refine call_of (hpl b F1) ?_
    rintro v F2 ⟨rfl, rfl⟩
    have hB' : F2 b = some (cmdO k y x f o n p d l a ab ⟨nm.toArray⟩ (.slice A ls.length c)) := hB_b
    ((conv => whnf); repeat (first | (apply load_at; (conv => lhs; whnf); (with_reducible assumption); rfl; (conv => whnf)) | (apply load_at; (conv => lhs; rw [add_plain, add_plain]); (with_reducible assumption); rfl; (conv => whnf)) | (apply loads_at; (conv => lhs; whnf); (with_reducible assumption); rfl; (conv => whnf)) | (refine ⟨⟨by omega, by omega⟩, ?_⟩; (conv => whnf))))
    refine new_step (.cells (([x] : List Int).map (Value.int .i64)).toArray 3) rfl fun g h0_g => ?_
    have hE_g := Ext.new h0_g (.cells (([x] : List Int).map (Value.int .i64)).toArray 3)
    have hB_g := Heap.put_same F2 g (.cells (([x] : List Int).map (Value.int .i64)).toArray 3)
    generalize F2.put g _ = F4 at hE_g hB_g ⊢
    ((conv => whnf); repeat (first | (apply load_at; (conv => lhs; whnf); (with_reducible assumption); rfl; (conv => whnf)) | (apply load_at; (conv => lhs; rw [add_plain, add_plain]); (with_reducible assumption); rfl; (conv => whnf)) | (apply loads_at; (conv => lhs; whnf); (with_reducible assumption); rfl; (conv => whnf)) | (refine ⟨⟨by omega, by omega⟩, ?_⟩; (conv => whnf))))
    refine call_of (rnums [x] (by intro n hn; rw [List.mem_singleton.1 hn]; exact hz) (some ⟨g, 0, none⟩) 1 F4 (row_new hB_g) (by simp only [List.length_cons, List.length_nil]; omega)) ?_
    rintro v F6 hM
    ((conv => whnf); repeat (first | (apply load_at; (conv => lhs; whnf); (with_reducible assumption); rfl; (conv => whnf)) | (apply load_at; (conv => lhs; rw [add_plain, add_plain]); (with_reducible assumption); rfl; (conv => whnf)) | (apply loads_at; (conv => lhs; whnf); (with_reducible assumption); rfl; (conv => whnf)) | (refine ⟨⟨by omega, by omega⟩, ?_⟩; (conv => whnf))))
    exact hM.down (hE_b.trans hE_g)
  · replace hz : R64 f := hz
    show FnK _ _ _ _ (fun v F' => Mine F F' v 9 1 (([f] : List Int).map txt).length (txV (([f] : List Int).map txt)))
    (refine fn_walk tab_ok Try.func43 rfl rfl rfl rfl ?_; (conv => whnf))
    refine new_step (cmdO k y x f o n p d l a ab ⟨nm.toArray⟩ (.slice A ls.length c)) rfl fun b h0_b => ?_
    have hE_b := Ext.new h0_b (cmdO k y x f o n p d l a ab ⟨nm.toArray⟩ (.slice A ls.length c))
    have hB_b := Heap.put_same F b (cmdO k y x f o n p d l a ab ⟨nm.toArray⟩ (.slice A ls.length c))
    generalize F.put b _ = F1 at hE_b hB_b ⊢
    ((conv => whnf); repeat (first | (apply load_at; (conv => lhs; whnf); (with_reducible assumption); rfl; (conv => whnf)) | (apply load_at; (conv => lhs; rw [add_plain, add_plain]); (with_reducible assumption); rfl; (conv => whnf)) | (apply loads_at; (conv => lhs; whnf); (with_reducible assumption); rfl; (conv => whnf)) | (refine ⟨⟨by omega, by omega⟩, ?_⟩; (conv => whnf))))
    refine call_of (hpl b F1) ?_
    rintro v F2 ⟨rfl, rfl⟩
    have hB' : F2 b = some (cmdO k y x f o n p d l a ab ⟨nm.toArray⟩ (.slice A ls.length c)) := hB_b
    ((conv => whnf); repeat (first | (apply load_at; (conv => lhs; whnf); (with_reducible assumption); rfl; (conv => whnf)) | (apply load_at; (conv => lhs; rw [add_plain, add_plain]); (with_reducible assumption); rfl; (conv => whnf)) | (apply loads_at; (conv => lhs; whnf); (with_reducible assumption); rfl; (conv => whnf)) | (refine ⟨⟨by omega, by omega⟩, ?_⟩; (conv => whnf))))
    refine new_step (.cells (([f] : List Int).map (Value.int .i64)).toArray 3) rfl fun g h0_g => ?_
    have hE_g := Ext.new h0_g (.cells (([f] : List Int).map (Value.int .i64)).toArray 3)
    have hB_g := Heap.put_same F2 g (.cells (([f] : List Int).map (Value.int .i64)).toArray 3)
    generalize F2.put g _ = F4 at hE_g hB_g ⊢
    ((conv => whnf); repeat (first | (apply load_at; (conv => lhs; whnf); (with_reducible assumption); rfl; (conv => whnf)) | (apply load_at; (conv => lhs; rw [add_plain, add_plain]); (with_reducible assumption); rfl; (conv => whnf)) | (apply loads_at; (conv => lhs; whnf); (with_reducible assumption); rfl; (conv => whnf)) | (refine ⟨⟨by omega, by omega⟩, ?_⟩; (conv => whnf))))
    refine call_of (rnums [f] (by intro n hn; rw [List.mem_singleton.1 hn]; exact hz) (some ⟨g, 0, none⟩) 1 F4 (row_new hB_g) (by simp only [List.length_cons, List.length_nil]; omega)) ?_
    rintro v F6 hM
    ((conv => whnf); repeat (first | (apply load_at; (conv => lhs; whnf); (with_reducible assumption); rfl; (conv => whnf)) | (apply load_at; (conv => lhs; rw [add_plain, add_plain]); (with_reducible assumption); rfl; (conv => whnf)) | (apply loads_at; (conv => lhs; whnf); (with_reducible assumption); rfl; (conv => whnf)) | (refine ⟨⟨by omega, by omega⟩, ?_⟩; (conv => whnf))))
    exact hM.down (hE_b.trans hE_g)
  · replace hz : R64 o := hz
    show FnK _ _ _ _ (fun v F' => Mine F F' v 9 1 (([o] : List Int).map txt).length (txV (([o] : List Int).map txt)))
    (refine fn_walk tab_ok Try.func43 rfl rfl rfl rfl ?_; (conv => whnf))
    refine new_step (cmdO k y x f o n p d l a ab ⟨nm.toArray⟩ (.slice A ls.length c)) rfl fun b h0_b => ?_
    have hE_b := Ext.new h0_b (cmdO k y x f o n p d l a ab ⟨nm.toArray⟩ (.slice A ls.length c))
    have hB_b := Heap.put_same F b (cmdO k y x f o n p d l a ab ⟨nm.toArray⟩ (.slice A ls.length c))
    generalize F.put b _ = F1 at hE_b hB_b ⊢
    ((conv => whnf); repeat (first | (apply load_at; (conv => lhs; whnf); (with_reducible assumption); rfl; (conv => whnf)) | (apply load_at; (conv => lhs; rw [add_plain, add_plain]); (with_reducible assumption); rfl; (conv => whnf)) | (apply loads_at; (conv => lhs; whnf); (with_reducible assumption); rfl; (conv => whnf)) | (refine ⟨⟨by omega, by omega⟩, ?_⟩; (conv => whnf))))
    refine call_of (hpl b F1) ?_
    rintro v F2 ⟨rfl, rfl⟩
    have hB' : F2 b = some (cmdO k y x f o n p d l a ab ⟨nm.toArray⟩ (.slice A ls.length c)) := hB_b
    ((conv => whnf); repeat (first | (apply load_at; (conv => lhs; whnf); (with_reducible assumption); rfl; (conv => whnf)) | (apply load_at; (conv => lhs; rw [add_plain, add_plain]); (with_reducible assumption); rfl; (conv => whnf)) | (apply loads_at; (conv => lhs; whnf); (with_reducible assumption); rfl; (conv => whnf)) | (refine ⟨⟨by omega, by omega⟩, ?_⟩; (conv => whnf))))
    refine new_step (.cells (([o] : List Int).map (Value.int .i64)).toArray 3) rfl fun g h0_g => ?_
    have hE_g := Ext.new h0_g (.cells (([o] : List Int).map (Value.int .i64)).toArray 3)
    have hB_g := Heap.put_same F2 g (.cells (([o] : List Int).map (Value.int .i64)).toArray 3)
    generalize F2.put g _ = F4 at hE_g hB_g ⊢
    ((conv => whnf); repeat (first | (apply load_at; (conv => lhs; whnf); (with_reducible assumption); rfl; (conv => whnf)) | (apply load_at; (conv => lhs; rw [add_plain, add_plain]); (with_reducible assumption); rfl; (conv => whnf)) | (apply loads_at; (conv => lhs; whnf); (with_reducible assumption); rfl; (conv => whnf)) | (refine ⟨⟨by omega, by omega⟩, ?_⟩; (conv => whnf))))
    refine call_of (rnums [o] (by intro n hn; rw [List.mem_singleton.1 hn]; exact hz) (some ⟨g, 0, none⟩) 1 F4 (row_new hB_g) (by simp only [List.length_cons, List.length_nil]; omega)) ?_
    rintro v F6 hM
    ((conv => whnf); repeat (first | (apply load_at; (conv => lhs; whnf); (with_reducible assumption); rfl; (conv => whnf)) | (apply load_at; (conv => lhs; rw [add_plain, add_plain]); (with_reducible assumption); rfl; (conv => whnf)) | (apply loads_at; (conv => lhs; whnf); (with_reducible assumption); rfl; (conv => whnf)) | (refine ⟨⟨by omega, by omega⟩, ?_⟩; (conv => whnf))))
    exact hM.down (hE_b.trans hE_g)
  · replace hz : R64 n := hz
    show FnK _ _ _ _ (fun v F' => Mine F F' v 9 1 (([n] : List Int).map txt).length (txV (([n] : List Int).map txt)))
    (refine fn_walk tab_ok Try.func43 rfl rfl rfl rfl ?_; (conv => whnf))
    refine new_step (cmdO k y x f o n p d l a ab ⟨nm.toArray⟩ (.slice A ls.length c)) rfl fun b h0_b => ?_
    have hE_b := Ext.new h0_b (cmdO k y x f o n p d l a ab ⟨nm.toArray⟩ (.slice A ls.length c))
    have hB_b := Heap.put_same F b (cmdO k y x f o n p d l a ab ⟨nm.toArray⟩ (.slice A ls.length c))
    generalize F.put b _ = F1 at hE_b hB_b ⊢
    ((conv => whnf); repeat (first | (apply load_at; (conv => lhs; whnf); (with_reducible assumption); rfl; (conv => whnf)) | (apply load_at; (conv => lhs; rw [add_plain, add_plain]); (with_reducible assumption); rfl; (conv => whnf)) | (apply loads_at; (conv => lhs; whnf); (with_reducible assumption); rfl; (conv => whnf)) | (refine ⟨⟨by omega, by omega⟩, ?_⟩; (conv => whnf))))
    refine call_of (hpl b F1) ?_
    rintro v F2 ⟨rfl, rfl⟩
    have hB' : F2 b = some (cmdO k y x f o n p d l a ab ⟨nm.toArray⟩ (.slice A ls.length c)) := hB_b
    ((conv => whnf); repeat (first | (apply load_at; (conv => lhs; whnf); (with_reducible assumption); rfl; (conv => whnf)) | (apply load_at; (conv => lhs; rw [add_plain, add_plain]); (with_reducible assumption); rfl; (conv => whnf)) | (apply loads_at; (conv => lhs; whnf); (with_reducible assumption); rfl; (conv => whnf)) | (refine ⟨⟨by omega, by omega⟩, ?_⟩; (conv => whnf))))
    refine new_step (.cells (([n] : List Int).map (Value.int .i64)).toArray 3) rfl fun g h0_g => ?_
    have hE_g := Ext.new h0_g (.cells (([n] : List Int).map (Value.int .i64)).toArray 3)
    have hB_g := Heap.put_same F2 g (.cells (([n] : List Int).map (Value.int .i64)).toArray 3)
    generalize F2.put g _ = F4 at hE_g hB_g ⊢
    ((conv => whnf); repeat (first | (apply load_at; (conv => lhs; whnf); (with_reducible assumption); rfl; (conv => whnf)) | (apply load_at; (conv => lhs; rw [add_plain, add_plain]); (with_reducible assumption); rfl; (conv => whnf)) | (apply loads_at; (conv => lhs; whnf); (with_reducible assumption); rfl; (conv => whnf)) | (refine ⟨⟨by omega, by omega⟩, ?_⟩; (conv => whnf))))
    refine call_of (rnums [n] (by intro n hn; rw [List.mem_singleton.1 hn]; exact hz) (some ⟨g, 0, none⟩) 1 F4 (row_new hB_g) (by simp only [List.length_cons, List.length_nil]; omega)) ?_
    rintro v F6 hM
    ((conv => whnf); repeat (first | (apply load_at; (conv => lhs; whnf); (with_reducible assumption); rfl; (conv => whnf)) | (apply load_at; (conv => lhs; rw [add_plain, add_plain]); (with_reducible assumption); rfl; (conv => whnf)) | (apply loads_at; (conv => lhs; whnf); (with_reducible assumption); rfl; (conv => whnf)) | (refine ⟨⟨by omega, by omega⟩, ?_⟩; (conv => whnf))))
    exact hM.down (hE_b.trans hE_g)
  · replace hz : R64 p := hz
    show FnK _ _ _ _ (fun v F' => Mine F F' v 9 1 (([p] : List Int).map txt).length (txV (([p] : List Int).map txt)))
    (refine fn_walk tab_ok Try.func43 rfl rfl rfl rfl ?_; (conv => whnf))
    refine new_step (cmdO k y x f o n p d l a ab ⟨nm.toArray⟩ (.slice A ls.length c)) rfl fun b h0_b => ?_
    have hE_b := Ext.new h0_b (cmdO k y x f o n p d l a ab ⟨nm.toArray⟩ (.slice A ls.length c))
    have hB_b := Heap.put_same F b (cmdO k y x f o n p d l a ab ⟨nm.toArray⟩ (.slice A ls.length c))
    generalize F.put b _ = F1 at hE_b hB_b ⊢
    ((conv => whnf); repeat (first | (apply load_at; (conv => lhs; whnf); (with_reducible assumption); rfl; (conv => whnf)) | (apply load_at; (conv => lhs; rw [add_plain, add_plain]); (with_reducible assumption); rfl; (conv => whnf)) | (apply loads_at; (conv => lhs; whnf); (with_reducible assumption); rfl; (conv => whnf)) | (refine ⟨⟨by omega, by omega⟩, ?_⟩; (conv => whnf))))
    refine call_of (hpl b F1) ?_
    rintro v F2 ⟨rfl, rfl⟩
    have hB' : F2 b = some (cmdO k y x f o n p d l a ab ⟨nm.toArray⟩ (.slice A ls.length c)) := hB_b
    ((conv => whnf); repeat (first | (apply load_at; (conv => lhs; whnf); (with_reducible assumption); rfl; (conv => whnf)) | (apply load_at; (conv => lhs; rw [add_plain, add_plain]); (with_reducible assumption); rfl; (conv => whnf)) | (apply loads_at; (conv => lhs; whnf); (with_reducible assumption); rfl; (conv => whnf)) | (refine ⟨⟨by omega, by omega⟩, ?_⟩; (conv => whnf))))
    refine new_step (.cells (([p] : List Int).map (Value.int .i64)).toArray 3) rfl fun g h0_g => ?_
    have hE_g := Ext.new h0_g (.cells (([p] : List Int).map (Value.int .i64)).toArray 3)
    have hB_g := Heap.put_same F2 g (.cells (([p] : List Int).map (Value.int .i64)).toArray 3)
    generalize F2.put g _ = F4 at hE_g hB_g ⊢
    ((conv => whnf); repeat (first | (apply load_at; (conv => lhs; whnf); (with_reducible assumption); rfl; (conv => whnf)) | (apply load_at; (conv => lhs; rw [add_plain, add_plain]); (with_reducible assumption); rfl; (conv => whnf)) | (apply loads_at; (conv => lhs; whnf); (with_reducible assumption); rfl; (conv => whnf)) | (refine ⟨⟨by omega, by omega⟩, ?_⟩; (conv => whnf))))
    refine call_of (rnums [p] (by intro n hn; rw [List.mem_singleton.1 hn]; exact hz) (some ⟨g, 0, none⟩) 1 F4 (row_new hB_g) (by simp only [List.length_cons, List.length_nil]; omega)) ?_
    rintro v F6 hM
    ((conv => whnf); repeat (first | (apply load_at; (conv => lhs; whnf); (with_reducible assumption); rfl; (conv => whnf)) | (apply load_at; (conv => lhs; rw [add_plain, add_plain]); (with_reducible assumption); rfl; (conv => whnf)) | (apply loads_at; (conv => lhs; whnf); (with_reducible assumption); rfl; (conv => whnf)) | (refine ⟨⟨by omega, by omega⟩, ?_⟩; (conv => whnf))))
    exact hM.down (hE_b.trans hE_g)
  · replace hz : R64 d := hz
    show FnK _ _ _ _ (fun v F' => Mine F F' v 9 1 (([d] : List Int).map txt).length (txV (([d] : List Int).map txt)))
    (refine fn_walk tab_ok Try.func43 rfl rfl rfl rfl ?_; (conv => whnf))
    refine new_step (cmdO k y x f o n p d l a ab ⟨nm.toArray⟩ (.slice A ls.length c)) rfl fun b h0_b => ?_
    have hE_b := Ext.new h0_b (cmdO k y x f o n p d l a ab ⟨nm.toArray⟩ (.slice A ls.length c))
    have hB_b := Heap.put_same F b (cmdO k y x f o n p d l a ab ⟨nm.toArray⟩ (.slice A ls.length c))
    generalize F.put b _ = F1 at hE_b hB_b ⊢
    ((conv => whnf); repeat (first | (apply load_at; (conv => lhs; whnf); (with_reducible assumption); rfl; (conv => whnf)) | (apply load_at; (conv => lhs; rw [add_plain, add_plain]); (with_reducible assumption); rfl; (conv => whnf)) | (apply loads_at; (conv => lhs; whnf); (with_reducible assumption); rfl; (conv => whnf)) | (refine ⟨⟨by omega, by omega⟩, ?_⟩; (conv => whnf))))
    refine call_of (hpl b F1) ?_
    rintro v F2 ⟨rfl, rfl⟩
    have hB' : F2 b = some (cmdO k y x f o n p d l a ab ⟨nm.toArray⟩ (.slice A ls.length c)) := hB_b
    ((conv => whnf); repeat (first | (apply load_at; (conv => lhs; whnf); (with_reducible assumption); rfl; (conv => whnf)) | (apply load_at; (conv => lhs; rw [add_plain, add_plain]); (with_reducible assumption); rfl; (conv => whnf)) | (apply loads_at; (conv => lhs; whnf); (with_reducible assumption); rfl; (conv => whnf)) | (refine ⟨⟨by omega, by omega⟩, ?_⟩; (conv => whnf))))
    refine new_step (.cells (([d] : List Int).map (Value.int .i64)).toArray 3) rfl fun g h0_g => ?_
    have hE_g := Ext.new h0_g (.cells (([d] : List Int).map (Value.int .i64)).toArray 3)
    have hB_g := Heap.put_same F2 g (.cells (([d] : List Int).map (Value.int .i64)).toArray 3)
    generalize F2.put g _ = F4 at hE_g hB_g ⊢
    ((conv => whnf); repeat (first | (apply load_at; (conv => lhs; whnf); (with_reducible assumption); rfl; (conv => whnf)) | (apply load_at; (conv => lhs; rw [add_plain, add_plain]); (with_reducible assumption); rfl; (conv => whnf)) | (apply loads_at; (conv => lhs; whnf); (with_reducible assumption); rfl; (conv => whnf)) | (refine ⟨⟨by omega, by omega⟩, ?_⟩; (conv => whnf))))
    refine call_of (rnums [d] (by intro n hn; rw [List.mem_singleton.1 hn]; exact hz) (some ⟨g, 0, none⟩) 1 F4 (row_new hB_g) (by simp only [List.length_cons, List.length_nil]; omega)) ?_
    rintro v F6 hM
    ((conv => whnf); repeat (first | (apply load_at; (conv => lhs; whnf); (with_reducible assumption); rfl; (conv => whnf)) | (apply load_at; (conv => lhs; rw [add_plain, add_plain]); (with_reducible assumption); rfl; (conv => whnf)) | (apply loads_at; (conv => lhs; whnf); (with_reducible assumption); rfl; (conv => whnf)) | (refine ⟨⟨by omega, by omega⟩, ?_⟩; (conv => whnf))))
    exact hM.down (hE_b.trans hE_g)
  · replace hz : R64 l := hz
    show FnK _ _ _ _ (fun v F' => Mine F F' v 9 1 (([l] : List Int).map txt).length (txV (([l] : List Int).map txt)))
    (refine fn_walk tab_ok Try.func43 rfl rfl rfl rfl ?_; (conv => whnf))
    refine new_step (cmdO k y x f o n p d l a ab ⟨nm.toArray⟩ (.slice A ls.length c)) rfl fun b h0_b => ?_
    have hE_b := Ext.new h0_b (cmdO k y x f o n p d l a ab ⟨nm.toArray⟩ (.slice A ls.length c))
    have hB_b := Heap.put_same F b (cmdO k y x f o n p d l a ab ⟨nm.toArray⟩ (.slice A ls.length c))
    generalize F.put b _ = F1 at hE_b hB_b ⊢
    ((conv => whnf); repeat (first | (apply load_at; (conv => lhs; whnf); (with_reducible assumption); rfl; (conv => whnf)) | (apply load_at; (conv => lhs; rw [add_plain, add_plain]); (with_reducible assumption); rfl; (conv => whnf)) | (apply loads_at; (conv => lhs; whnf); (with_reducible assumption); rfl; (conv => whnf)) | (refine ⟨⟨by omega, by omega⟩, ?_⟩; (conv => whnf))))
    refine call_of (hpl b F1) ?_
    rintro v F2 ⟨rfl, rfl⟩
    have hB' : F2 b = some (cmdO k y x f o n p d l a ab ⟨nm.toArray⟩ (.slice A ls.length c)) := hB_b
    ((conv => whnf); repeat (first | (apply load_at; (conv => lhs; whnf); (with_reducible assumption); rfl; (conv => whnf)) | (apply load_at; (conv => lhs; rw [add_plain, add_plain]); (with_reducible assumption); rfl; (conv => whnf)) | (apply loads_at; (conv => lhs; whnf); (with_reducible assumption); rfl; (conv => whnf)) | (refine ⟨⟨by omega, by omega⟩, ?_⟩; (conv => whnf))))
    refine new_step (.cells (([l] : List Int).map (Value.int .i64)).toArray 3) rfl fun g h0_g => ?_
    have hE_g := Ext.new h0_g (.cells (([l] : List Int).map (Value.int .i64)).toArray 3)
    have hB_g := Heap.put_same F2 g (.cells (([l] : List Int).map (Value.int .i64)).toArray 3)
    generalize F2.put g _ = F4 at hE_g hB_g ⊢
    ((conv => whnf); repeat (first | (apply load_at; (conv => lhs; whnf); (with_reducible assumption); rfl; (conv => whnf)) | (apply load_at; (conv => lhs; rw [add_plain, add_plain]); (with_reducible assumption); rfl; (conv => whnf)) | (apply loads_at; (conv => lhs; whnf); (with_reducible assumption); rfl; (conv => whnf)) | (refine ⟨⟨by omega, by omega⟩, ?_⟩; (conv => whnf))))
    refine call_of (rnums [l] (by intro n hn; rw [List.mem_singleton.1 hn]; exact hz) (some ⟨g, 0, none⟩) 1 F4 (row_new hB_g) (by simp only [List.length_cons, List.length_nil]; omega)) ?_
    rintro v F6 hM
    ((conv => whnf); repeat (first | (apply load_at; (conv => lhs; whnf); (with_reducible assumption); rfl; (conv => whnf)) | (apply load_at; (conv => lhs; rw [add_plain, add_plain]); (with_reducible assumption); rfl; (conv => whnf)) | (apply loads_at; (conv => lhs; whnf); (with_reducible assumption); rfl; (conv => whnf)) | (refine ⟨⟨by omega, by omega⟩, ?_⟩; (conv => whnf))))
    exact hM.down (hE_b.trans hE_g)
  · replace hz : R64 a := hz
    show FnK _ _ _ _ (fun v F' => Mine F F' v 9 1 (([a] : List Int).map txt).length (txV (([a] : List Int).map txt)))
    (refine fn_walk tab_ok Try.func43 rfl rfl rfl rfl ?_; (conv => whnf))
    refine new_step (cmdO k y x f o n p d l a ab ⟨nm.toArray⟩ (.slice A ls.length c)) rfl fun b h0_b => ?_
    have hE_b := Ext.new h0_b (cmdO k y x f o n p d l a ab ⟨nm.toArray⟩ (.slice A ls.length c))
    have hB_b := Heap.put_same F b (cmdO k y x f o n p d l a ab ⟨nm.toArray⟩ (.slice A ls.length c))
    generalize F.put b _ = F1 at hE_b hB_b ⊢
    ((conv => whnf); repeat (first | (apply load_at; (conv => lhs; whnf); (with_reducible assumption); rfl; (conv => whnf)) | (apply load_at; (conv => lhs; rw [add_plain, add_plain]); (with_reducible assumption); rfl; (conv => whnf)) | (apply loads_at; (conv => lhs; whnf); (with_reducible assumption); rfl; (conv => whnf)) | (refine ⟨⟨by omega, by omega⟩, ?_⟩; (conv => whnf))))
    refine call_of (hpl b F1) ?_
    rintro v F2 ⟨rfl, rfl⟩
    have hB' : F2 b = some (cmdO k y x f o n p d l a ab ⟨nm.toArray⟩ (.slice A ls.length c)) := hB_b
    ((conv => whnf); repeat (first | (apply load_at; (conv => lhs; whnf); (with_reducible assumption); rfl; (conv => whnf)) | (apply load_at; (conv => lhs; rw [add_plain, add_plain]); (with_reducible assumption); rfl; (conv => whnf)) | (apply loads_at; (conv => lhs; whnf); (with_reducible assumption); rfl; (conv => whnf)) | (refine ⟨⟨by omega, by omega⟩, ?_⟩; (conv => whnf))))
    refine new_step (.cells (([a] : List Int).map (Value.int .i64)).toArray 3) rfl fun g h0_g => ?_
    have hE_g := Ext.new h0_g (.cells (([a] : List Int).map (Value.int .i64)).toArray 3)
    have hB_g := Heap.put_same F2 g (.cells (([a] : List Int).map (Value.int .i64)).toArray 3)
    generalize F2.put g _ = F4 at hE_g hB_g ⊢
    ((conv => whnf); repeat (first | (apply load_at; (conv => lhs; whnf); (with_reducible assumption); rfl; (conv => whnf)) | (apply load_at; (conv => lhs; rw [add_plain, add_plain]); (with_reducible assumption); rfl; (conv => whnf)) | (apply loads_at; (conv => lhs; whnf); (with_reducible assumption); rfl; (conv => whnf)) | (refine ⟨⟨by omega, by omega⟩, ?_⟩; (conv => whnf))))
    refine call_of (rnums [a] (by intro n hn; rw [List.mem_singleton.1 hn]; exact hz) (some ⟨g, 0, none⟩) 1 F4 (row_new hB_g) (by simp only [List.length_cons, List.length_nil]; omega)) ?_
    rintro v F6 hM
    ((conv => whnf); repeat (first | (apply load_at; (conv => lhs; whnf); (with_reducible assumption); rfl; (conv => whnf)) | (apply load_at; (conv => lhs; rw [add_plain, add_plain]); (with_reducible assumption); rfl; (conv => whnf)) | (apply loads_at; (conv => lhs; whnf); (with_reducible assumption); rfl; (conv => whnf)) | (refine ⟨⟨by omega, by omega⟩, ?_⟩; (conv => whnf))))
    exact hM.down (hE_b.trans hE_g)
theorem rfield (f : Nat) (hf : f ≤ 12) (cd : CD) (hR : CdR cd) (A : Option Addr) (c : Nat) (F : Heap) (hr : RowAt F A (linesV cd.ls)) (hl : cd.ls.length ≤ 10000) :
    FnK Try.prog 43 #[aggOf cd A c, .int .u8 ((letC f).toNat : Int)] F (fun v F' => Mine F F' v 9 1 (fieldW cd f).length (txV (fieldW cd f))) := by
  by_cases h : f ≤ 8
  · exact rfieldN f h cd hR A c F
  · obtain rfl | rfl | rfl | rfl : f = 9 ∨ f = 10 ∨ f = 11 ∨ f = 12 := by omega
    · exact rfield9 cd A c F
    · exact rfield10 cd A c F
    · exact rfield11 cd hR A c F hr hl
    · exact rfield12 cd hR A c F hr hl
end Go.Proofs.Ytbgijjoemnfnmaa.Al
/- exchequerref48.print. -/
namespace Go.Proofs.Ytbgijjoemnfnmaa.Al
open Go Go.Al Go.Proofs Go.RowKit
set_option maxHeartbeats 8000000
set_option maxRecDepth 100000
set_option linter.unusedVariables false
set_option linter.unusedSimpArgs false
theorem tailL_app (a b : List (List UInt8)) : tailL (a ++ b) = tailL a ++ tailL b := by unfold tailL; rw [List.flatMap_append]
theorem rprint (cd : CD) (hk : knownB cd.k = true) (hR : CdR cd) (A : Option Addr) (c : Nat) (F : Heap) (hr : RowAt F A (linesV cd.ls)) (hn : cd.nm.length ≤ 100000) (hl : cd.ls.length ≤ 10000) :
    FnK Try.prog 24 #[aggOf cd A c] F (fun v F' => v = str (printP cd) ∧ Ext F F') := by
  have hpl := printP_len cd hR hn hl
  obtain ⟨kn, hkn⟩ : ∃ kn : Nat, cd.k = (kn : Int) ∧ 1 ≤ kn ∧ kn ≤ 20 := by
    unfold knownB at hk
    rw [Bool.and_eq_true, decide_eq_true_iff, decide_eq_true_iff] at hk
    exact ⟨cd.k.toNat, by omega, by omega, by omega⟩
  obtain ⟨hk1, hk2, hk3⟩ := hkn
  have hpp : printP cd = wordK kn ++ tailL (fieldsW cd (asksL kn)) := by unfold printP wordsP; rw [hk1]; rfl
  rw [hpp] at hpl ⊢
  have hwf := fun f hf F h => rfield f hf cd hR A c F h hl
  have hfwl := fun j => fieldW_len cd j
  have hwk := wordK_at kn ⟨hk2, hk3⟩
  have hask := rasks kn ⟨hk2, hk3⟩
  have hal := asksL_le kn
  have han7 := asksL_len kn
  have htk : ∀ (fs : List Nat) (j f : Nat), fs[j]? = some f → tailL (fieldsW cd (fs.take (j + 1))) = tailL (fieldsW cd (fs.take j)) ++ tailL (fieldW cd f) := by
    intro fs j f h
    unfold fieldsW
    rw [List.take_add_one, h, ← tailL_app]
    simp
  have hmono : ∀ (fs : List Nat) (j : Nat), (tailL (fieldsW cd (fs.take j))).length ≤ (tailL (fieldsW cd fs)).length := by
    intro fs j
    have : fieldsW cd fs = fieldsW cd (fs.take j) ++ fieldsW cd (fs.drop j) := by
      unfold fieldsW
      rw [← List.flatMap_append, List.take_append_drop]
    rw [this, tailL_app, List.length_append]
    omega
  obtain ⟨Wf, hWf⟩ : ∃ W, W = fieldsW cd := ⟨_, rfl⟩
  obtain ⟨wf, hwf0⟩ : ∃ w, w = fieldW cd := ⟨_, rfl⟩
  have h0W : Wf [] = [] := by rw [hWf]; rfl
  rw [← hWf] at hpl hmono htk ⊢
  rw [← hwf0] at hwf htk hfwl
  clear hpp hWf hwf0
  generalize asksL kn = fs at hpl hask hal han7 ⊢
  generalize wordK kn = wk at hpl hwk ⊢
  obtain ⟨k, y, x, f_, o, n, p, d, l, a, ab, nm, ls⟩ := cd
  obtain rfl : k = (kn : Int) := hk1
  replace hwf : ∀ fl : Nat, fl ≤ 12 → ∀ F : Heap, RowAt F A (linesV ls) → FnK Try.prog 43 #[.agg (cmdC kn y x f_ o n p d l a ab ⟨nm.toArray⟩ (.slice A ls.length c)), .int .u8 ((letC fl).toNat : Int)] F (fun v F' => Mine F F' v 9 1 (wf fl).length (txV (wf fl))) := hwf
  replace hr : RowAt F A (linesV ls) := hr
  replace hl : ls.length ≤ 10000 := hl
  replace hfwl : ∀ j, (wf j).length ≤ 1 + 3 * ls.length := hfwl
  have hks : IntKind.i64.wrap ((kn : Int) - 1) = ((kn - 1 : Nat) : Int) := by rw [wrap_eq (by omega) (by omega)]; omega
  have han : ((⟨(fs.map letC).toArray⟩ : ByteArray)).size = fs.length := by show (fs.map letC).toArray.size = _; simp
  rw [List.length_append] at hpl
  (refine fn_walk tab_ok Try.func24 rfl rfl rfl rfl ?_; (conv => whnf))
  refine new_step (cmdO kn y x f_ o n p d l a ab ⟨nm.toArray⟩ (.slice A ls.length c)) rfl fun b h0_b => ?_
  have hE_b := Ext.new h0_b (cmdO kn y x f_ o n p d l a ab ⟨nm.toArray⟩ (.slice A ls.length c))
  have hB_b := Heap.put_same F b (cmdO kn y x f_ o n p d l a ab ⟨nm.toArray⟩ (.slice A ls.length c))
  generalize F.put b _ = F1 at hE_b hB_b ⊢
  ((conv => whnf); repeat (first | (apply load_at; (conv => lhs; whnf); (with_reducible assumption); rfl; (conv => whnf)) | (apply load_at; (conv => lhs; rw [add_plain, add_plain]); (with_reducible assumption); rfl; (conv => whnf)) | (apply loads_at; (conv => lhs; whnf); (with_reducible assumption); rfl; (conv => whnf)) | (refine ⟨⟨by omega, by omega⟩, ?_⟩; (conv => whnf))))
  refine draw_cut (fun env' F' => env' 1 = .pointer (some ⟨b, 0, none⟩) ∧ env' 3 = str wk ∧ Ext F1 F') (fun K hK => ?_) ?_
  · refine draw_tree tab_ok (by kernel_rfl) [2, 1000] (DT.row [1, 2, 3, 0, 4, 5, 6] .nil) (by kernel_rfl) ?_
    ((conv => whnf); repeat (first | (apply load_at; (conv => lhs; whnf); (with_reducible assumption); rfl; (conv => whnf)) | (apply load_at; (conv => lhs; rw [add_plain, add_plain]); (with_reducible assumption); rfl; (conv => whnf)) | (apply loads_at; (conv => lhs; whnf); (with_reducible assumption); rfl; (conv => whnf)) | (refine ⟨⟨by omega, by omega⟩, ?_⟩; (conv => whnf))))
    refine call_of (rwords F1) ?_
    rintro v F2 ⟨g, rfl, hrg, h0g, hE2⟩
    refine ⟨hE2, ?_⟩
    have hcell : F2.cell? ((⟨g, 0, none⟩ : Addr).add (Int.toNat (IntKind.i64.wrap ((kn : Int) - 1)) * 1)) = some (str wk) := by
      rw [hks]
      exact tx_cell hrg hwk
    ((conv => whnf); repeat (first | (apply load_at; (conv => lhs; whnf); (with_reducible assumption); rfl; (conv => whnf)) | (apply load_at; (conv => lhs; rw [add_plain, add_plain]); (with_reducible assumption); rfl; (conv => whnf)) | (apply loads_at; (conv => lhs; whnf); (with_reducible assumption); rfl; (conv => whnf)) | (refine ⟨⟨by omega, by omega⟩, ?_⟩; (conv => whnf))))
    refine load_step hcell ?_
    ((conv => whnf); repeat (first | (apply load_at; (conv => lhs; whnf); (with_reducible assumption); rfl; (conv => whnf)) | (apply load_at; (conv => lhs; rw [add_plain, add_plain]); (with_reducible assumption); rfl; (conv => whnf)) | (apply loads_at; (conv => lhs; whnf); (with_reducible assumption); rfl; (conv => whnf)) | (refine ⟨⟨by omega, by omega⟩, ?_⟩; (conv => whnf))))
    refine hK _ _ ?_
    exact ⟨rfl, rfl, hE2⟩
  rintro env' F2 ⟨q1, q3, hE2⟩
  refine short [1, 3] [.pointer (some ⟨b, 0, none⟩), str wk] (by simp only [List.map_cons, List.map_nil, q1, q3]) fun ρ => ?_
  ((conv => whnf); repeat (first | (apply load_at; (conv => lhs; whnf); (with_reducible assumption); rfl; (conv => whnf)) | (apply load_at; (conv => lhs; rw [add_plain, add_plain]); (with_reducible assumption); rfl; (conv => whnf)) | (apply loads_at; (conv => lhs; whnf); (with_reducible assumption); rfl; (conv => whnf)) | (refine ⟨⟨by omega, by omega⟩, ?_⟩; (conv => whnf))))
  refine loop_slots [1, 3, 4] (fun m vs F' => ∃ j : Nat, j + m = fs.length ∧ vs = [.pointer (some ⟨b, 0, none⟩), str (wk ++ tailL (Wf (fs.take j))), .int .i64 (j : Int)] ∧ Ext F1 F') fs.length ⟨0, by omega, ?h0, hE2⟩ ?_
  case h0 =>
    have e0 : wk ++ tailL (Wf (fs.take 0)) = wk := by
      rw [List.take_zero, h0W]
      exact List.append_nil _
    rw [e0]
    rfl
  rintro m vs F3 ρ ⟨j, hjm, rfl, hE3⟩
  have hb3 := hE3 _ _ hB_b
  have hr3 : RowAt F3 A (linesV ls) := (hr.mono hE_b).mono hE3
  have hmj := hmono fs j
  ((conv => whnf); repeat (first | (apply load_at; (conv => lhs; whnf); (with_reducible assumption); rfl; (conv => whnf)) | (apply load_at; (conv => lhs; rw [add_plain, add_plain]); (with_reducible assumption); rfl; (conv => whnf)) | (apply loads_at; (conv => lhs; whnf); (with_reducible assumption); rfl; (conv => whnf)) | (refine ⟨⟨by omega, by omega⟩, ?_⟩; (conv => whnf))))
  refine call_of (hask F3) ?_
  rintro v F4 ⟨rfl, hE4⟩
  have hb4 := hE4 _ _ hb3
  replace hr3 := hr3.mono hE4
  replace hE3 := hE3.trans hE4
  ((conv => whnf); repeat (first | (apply load_at; (conv => lhs; whnf); (with_reducible assumption); rfl; (conv => whnf)) | (apply load_at; (conv => lhs; rw [add_plain, add_plain]); (with_reducible assumption); rfl; (conv => whnf)) | (apply loads_at; (conv => lhs; whnf); (with_reducible assumption); rfl; (conv => whnf)) | (refine ⟨⟨by omega, by omega⟩, ?_⟩; (conv => whnf))))
  refine cond_split (fun h => ?_) (fun h => ?_)
  · have hj : j < fs.length := by
      have h : decide ((j : Int) < (((⟨(fs.map letC).toArray⟩ : ByteArray).size : Nat) : Int)) = true := h
      rw [han] at h
      have := of_decide_eq_true h
      omega
    have hws : IntKind.i64.wrap ((j : Int) + 1) = ((j + 1 : Nat) : Int) := wrap_succ (by omega)
    have hget : ∀ b, (⟨(fs.map letC).toArray⟩ : ByteArray)[Int.toNat (j : Int)]? = some b → b = letC fs[j] := fun b h => by
      rw [Int.toNat_natCast, str_get, List.getElem?_map, List.getElem?_eq_getElem hj] at h
      exact (Option.some.inj h).symm
    have hf := hal fs[j] (List.getElem_mem hj)
    have ht := htk fs j fs[j] (List.getElem?_eq_getElem hj)
    have hmj1 := hmono fs (j + 1)
    generalize fs[j] = fl at hget hf ht
    have hfl := hfwl fl
    have hcall := hwf fl hf
    rw [ht, List.length_append] at hmj1
    obtain ⟨cur, hcur⟩ : ∃ cur, cur = wk ++ tailL (Wf (fs.take j)) := ⟨_, rfl⟩
    have hcl : cur.length + (tailL (wf fl)).length ≤ 900000000 := by rw [hcur, List.length_append]; omega
    have ht2 : wk ++ tailL (Wf (fs.take (j + 1))) = cur ++ tailL (wf fl) := by rw [ht, hcur, List.append_assoc]
    generalize wf fl = lw at hfl hcall hcl ht2
    refine short [1, 3, 4] [.pointer (some ⟨b, 0, none⟩), str cur, .int .i64 (j : Int)] (congrArg (fun q : List UInt8 => [Value.pointer (some ⟨b, 0, none⟩), str q, .int .i64 (j : Int)]) hcur.symm) fun ρ => ?_
    ((conv => whnf); repeat (first | (apply load_at; (conv => lhs; whnf); (with_reducible assumption); rfl; (conv => whnf)) | (apply load_at; (conv => lhs; rw [add_plain, add_plain]); (with_reducible assumption); rfl; (conv => whnf)) | (apply loads_at; (conv => lhs; whnf); (with_reducible assumption); rfl; (conv => whnf)) | (refine ⟨⟨by omega, by omega⟩, ?_⟩; (conv => whnf))))
    refine draw_cut (fun env' F' => env' 1 = .pointer (some ⟨b, 0, none⟩) ∧ env' 3 = str cur ∧ env' 4 = .int .i64 (j : Int) ∧ ∃ B cc, env' 5 = .slice B lw.length cc ∧ RowAt F' B (txV lw) ∧ Ext F4 F') (fun K hK => ?_) ?_
    · refine draw_tree tab_ok (by kernel_rfl) [0, 2, 1000] (DT.row [0, 1, 2, 4, 3, 5, 6, 7] .nil) (by kernel_rfl) ?_
      ((conv => whnf); repeat (first | (apply load_at; (conv => lhs; whnf); (with_reducible assumption); rfl; (conv => whnf)) | (apply load_at; (conv => lhs; rw [add_plain, add_plain]); (with_reducible assumption); rfl; (conv => whnf)) | (apply loads_at; (conv => lhs; whnf); (with_reducible assumption); rfl; (conv => whnf)) | (refine ⟨⟨by omega, by omega⟩, ?_⟩; (conv => whnf))))
      refine call_of (hask F4) ?_
      rintro v F5 ⟨rfl, hE5⟩
      refine ⟨hE5, ?_⟩
      ((conv => whnf); repeat (first | (apply load_at; (conv => lhs; whnf); (with_reducible assumption); rfl; (conv => whnf)) | (apply load_at; (conv => lhs; rw [add_plain, add_plain]); (with_reducible assumption); rfl; (conv => whnf)) | (apply loads_at; (conv => lhs; whnf); (with_reducible assumption); rfl; (conv => whnf)) | (refine ⟨⟨by omega, by omega⟩, ?_⟩; (conv => whnf))))
      intro u hu
      obtain rfl : u = letC fl := hget u hu
      ((conv => whnf); repeat (first | (apply load_at; (conv => lhs; whnf); (with_reducible assumption); rfl; (conv => whnf)) | (apply load_at; (conv => lhs; rw [add_plain, add_plain]); (with_reducible assumption); rfl; (conv => whnf)) | (apply loads_at; (conv => lhs; whnf); (with_reducible assumption); rfl; (conv => whnf)) | (refine ⟨⟨by omega, by omega⟩, ?_⟩; (conv => whnf))))
      refine call_of (hcall F5 (hr3.mono hE5)) ?_
      rintro v F6 hM
      obtain ⟨B, cc, rfl, _, hrB⟩ := hM.own.row
      ((conv => whnf); repeat (first | (apply load_at; (conv => lhs; whnf); (with_reducible assumption); rfl; (conv => whnf)) | (apply load_at; (conv => lhs; rw [add_plain, add_plain]); (with_reducible assumption); rfl; (conv => whnf)) | (apply loads_at; (conv => lhs; whnf); (with_reducible assumption); rfl; (conv => whnf)) | (refine ⟨⟨by omega, by omega⟩, ?_⟩; (conv => whnf))))
      refine hK _ _ ?_
      exact ⟨rfl, rfl, rfl, B, cc, rfl, hrB, hE5.trans hM.ext⟩
    rintro env' F6 ⟨q1, q3, q4, B, cc, q5, hrB, hE6⟩
    refine short [1, 3, 4, 5] [.pointer (some ⟨b, 0, none⟩), str cur, .int .i64 (j : Int), .slice B lw.length cc] (by simp only [List.map_cons, List.map_nil, q1, q3, q4, q5]) fun ρ => ?_
    ((conv => whnf); repeat (first | (apply load_at; (conv => lhs; whnf); (with_reducible assumption); rfl; (conv => whnf)) | (apply load_at; (conv => lhs; rw [add_plain, add_plain]); (with_reducible assumption); rfl; (conv => whnf)) | (apply loads_at; (conv => lhs; whnf); (with_reducible assumption); rfl; (conv => whnf)) | (refine ⟨⟨by omega, by omega⟩, ?_⟩; (conv => whnf))))
    refine loop_slots [1, 3, 4, 5, 6] (fun m' vs F' => ∃ i : Nat, i + m' = lw.length ∧ vs = [.pointer (some ⟨b, 0, none⟩), str (cur ++ tailL (lw.take i)), .int .i64 (j : Int), .slice B lw.length cc, .int .i64 (i : Int)] ∧ F' = F6) lw.length ⟨0, by omega, ?h1, rfl⟩ ?_
    case h1 =>
      have e0 : cur ++ tailL (lw.take 0) = cur := List.append_nil _
      rw [e0]
      rfl
    rintro m' vs F7 ρ ⟨i, him, rfl, rfl⟩
    ((conv => whnf); repeat (first | (apply load_at; (conv => lhs; whnf); (with_reducible assumption); rfl; (conv => whnf)) | (apply load_at; (conv => lhs; rw [add_plain, add_plain]); (with_reducible assumption); rfl; (conv => whnf)) | (apply loads_at; (conv => lhs; whnf); (with_reducible assumption); rfl; (conv => whnf)) | (refine ⟨⟨by omega, by omega⟩, ?_⟩; (conv => whnf))))
    refine cond_split (fun h => ?_) (fun h => ?_)
    · have hi : i < lw.length := by have := of_decide_eq_true h; omega
      obtain ⟨ad, rfl⟩ := hrB.some (by rw [txV_len]; omega)
      have hwi : IntKind.i64.wrap ((i : Int) + 1) = ((i + 1 : Nat) : Int) := wrap_succ (by omega)
      have hx := List.getElem?_eq_getElem hi
      have htk3 := tailL_take _ _ _ hx
      have hle := tailL_le lw (i + 1)
      have hcell := tx_cell hrB hx
      generalize lw[i] = u at hx htk3 hcell
      obtain ⟨c2, hc2⟩ : ∃ c2, c2 = cur ++ tailL (lw.take i) := ⟨_, rfl⟩
      have hnext : cur ++ tailL (lw.take (i + 1)) = (c2 ++ [32]) ++ u := by rw [htk3, hc2]; simp
      have hnl : ((c2 ++ [32]) ++ u).length ≤ 900000000 := by rw [← hnext, List.length_append]; omega
      have a1 := str_app c2 [32]
      have a2 := str_app (c2 ++ [32]) u
      refine short [1, 3, 4, 5, 6] [.pointer (some ⟨b, 0, none⟩), str c2, .int .i64 (j : Int), .slice (some ad) lw.length cc, .int .i64 (i : Int)] (congrArg (fun q : List UInt8 => [Value.pointer (some ⟨b, 0, none⟩), str q, .int .i64 (j : Int), .slice (some ad) lw.length cc, .int .i64 (i : Int)]) hc2.symm) fun ρ => ?_
      ((conv => whnf); repeat (first | (apply load_at; (conv => lhs; whnf); (with_reducible assumption); rfl; (conv => whnf)) | (apply load_at; (conv => lhs; rw [add_plain, add_plain]); (with_reducible assumption); rfl; (conv => whnf)) | (apply loads_at; (conv => lhs; whnf); (with_reducible assumption); rfl; (conv => whnf)) | (refine ⟨⟨by omega, by omega⟩, ?_⟩; (conv => whnf))))
      rw [List.length_append, List.length_append, List.length_singleton] at hnl
      refine ⟨by show ((c2.toArray.size + 1 : Nat) : Int) ≤ _; simp only [List.size_toArray]; omega, ?_⟩
      ((conv => whnf); repeat (first | (apply load_at; (conv => lhs; whnf); (with_reducible assumption); rfl; (conv => whnf)) | (apply load_at; (conv => lhs; rw [add_plain, add_plain]); (with_reducible assumption); rfl; (conv => whnf)) | (apply loads_at; (conv => lhs; whnf); (with_reducible assumption); rfl; (conv => whnf)) | (refine ⟨⟨by omega, by omega⟩, ?_⟩; (conv => whnf))))
      refine load_step hcell ?_
      ((conv => whnf); repeat (first | (apply load_at; (conv => lhs; whnf); (with_reducible assumption); rfl; (conv => whnf)) | (apply load_at; (conv => lhs; rw [add_plain, add_plain]); (with_reducible assumption); rfl; (conv => whnf)) | (apply loads_at; (conv => lhs; whnf); (with_reducible assumption); rfl; (conv => whnf)) | (refine ⟨⟨by omega, by omega⟩, ?_⟩; (conv => whnf))))
      refine ⟨by
        show (((⟨c2.toArray⟩ ++ ⟨[32].toArray⟩ : ByteArray).size + u.toArray.size : Nat) : Int) ≤ _
        rw [a1]
        show (((c2 ++ [32]).toArray.size + u.toArray.size : Nat) : Int) ≤ _
        simp only [List.size_toArray, List.length_append, List.length_cons, List.length_nil]
        omega, ?_⟩
      ((conv => whnf); repeat (first | (apply load_at; (conv => lhs; whnf); (with_reducible assumption); rfl; (conv => whnf)) | (apply load_at; (conv => lhs; rw [add_plain, add_plain]); (with_reducible assumption); rfl; (conv => whnf)) | (apply loads_at; (conv => lhs; whnf); (with_reducible assumption); rfl; (conv => whnf)) | (refine ⟨⟨by omega, by omega⟩, ?_⟩; (conv => whnf))))
      refine ⟨m' - 1, by omega, i + 1, by omega, ?_, rfl⟩
      have key : ∀ (q : ByteArray) (z : Int), q = ⟨((c2 ++ [32]) ++ u).toArray⟩ → z = ((i + 1 : Nat) : Int) → [Value.pointer (some ⟨b, 0, none⟩), .string q, .int .i64 (j : Int), .slice (some ad) lw.length cc, .int .i64 z] = [.pointer (some ⟨b, 0, none⟩), str (cur ++ tailL (lw.take (i + 1))), .int .i64 (j : Int), .slice (some ad) lw.length cc, .int .i64 ((i + 1 : Nat) : Int)] := by
        rintro q z rfl rfl
        rw [hnext]
      exact key _ _ (by show (⟨c2.toArray⟩ ++ ⟨#[32]⟩ ++ ⟨u.toArray⟩ : ByteArray) = _; rw [show (⟨#[32]⟩ : ByteArray) = ⟨[32].toArray⟩ from rfl, a1, a2]) hwi
    · have hi : i = lw.length := by have := of_decide_eq_false h; omega
      have htl : lw.take i = lw := by rw [hi, List.take_length]
      ((conv => whnf); repeat (first | (apply load_at; (conv => lhs; whnf); (with_reducible assumption); rfl; (conv => whnf)) | (apply load_at; (conv => lhs; rw [add_plain, add_plain]); (with_reducible assumption); rfl; (conv => whnf)) | (apply loads_at; (conv => lhs; whnf); (with_reducible assumption); rfl; (conv => whnf)) | (refine ⟨⟨by omega, by omega⟩, ?_⟩; (conv => whnf))))
      refine ⟨m - 1, by omega, j + 1, by omega, ?_, (hE3.trans hE6)⟩
      have key : ∀ (q : List UInt8) (z : Int), q = cur ++ tailL lw → z = ((j + 1 : Nat) : Int) → [Value.pointer (some ⟨b, 0, none⟩), str q, .int .i64 z] = [.pointer (some ⟨b, 0, none⟩), str (wk ++ tailL (Wf (fs.take (j + 1)))), .int .i64 ((j + 1 : Nat) : Int)] := by
        rintro q z rfl rfl
        rw [ht2]
      exact key (cur ++ tailL (lw.take i)) _ (by rw [htl]) hws
  · have hj : j = fs.length := by
      have h : decide ((j : Int) < (((⟨(fs.map letC).toArray⟩ : ByteArray).size : Nat) : Int)) = false := h
      rw [han] at h
      have := of_decide_eq_false h
      omega
    have htl : fs.take j = fs := by rw [hj, List.take_length]
    have hfin : wk ++ tailL (Wf (fs.take j)) = wk ++ tailL (Wf fs) := by rw [htl]
    ((conv => whnf); repeat (first | (apply load_at; (conv => lhs; whnf); (with_reducible assumption); rfl; (conv => whnf)) | (apply load_at; (conv => lhs; rw [add_plain, add_plain]); (with_reducible assumption); rfl; (conv => whnf)) | (apply loads_at; (conv => lhs; whnf); (with_reducible assumption); rfl; (conv => whnf)) | (refine ⟨⟨by omega, by omega⟩, ?_⟩; (conv => whnf))))
    exact ⟨congrArg str hfin, hE_b.trans hE3⟩
end Go.Proofs.Ytbgijjoemnfnmaa.Al
/- exchequerref48.Parse. -/
namespace Go.Proofs.Ytbgijjoemnfnmaa.Al
open Go Go.Al Go.Proofs Go.RowKit
set_option maxHeartbeats 8000000
set_option maxRecDepth 100000
set_option linter.unusedVariables false
set_option linter.unusedSimpArgs false
def rparseC (s : List UInt8) : CD := rfieldsS (asksL (kindS (cutL s).1)) (kindC (kindS (cutL s).1)) (cutL s).2.1 (cutL s).2.2
def rparseS (s : List UInt8) : CD × Int :=
  if 4096 < s.length then (zeroC, 16)
  else if kindS (cutL s).1 = 0 then (zeroC, 14)
  else if (mayB (rparseC s) && (printP (rparseC s) == s)) = true then (rparseC s, 0)
  else (zeroC, 14)
theorem idxW_at (w : List UInt8) : ∀ (ws : List (List UInt8)) (i : Nat), (idxW w ws i = -1) ∨ ∃ j, idxW w ws i = ((i + j : Nat) : Int) ∧ ws[j]? = some w
  | [], i => .inl rfl
  | x :: l, i => by
    show (if w = x then (i : Int) else idxW w l (i + 1)) = -1 ∨ ∃ j, (if w = x then (i : Int) else idxW w l (i + 1)) = ((i + j : Nat) : Int) ∧ (x :: l)[j]? = some w
    by_cases h : w = x
    · rw [if_pos h]
      exact .inr ⟨0, rfl, by rw [h]; rfl⟩
    · rw [if_neg h]
      rcases idxW_at w l (i + 1) with e | ⟨j, e, hj⟩
      · exact .inl e
      · exact .inr ⟨j + 1, by rw [e]; omega, hj⟩
theorem kind_words : ∀ i : Fin 20, kindS (wordsL[i.val]?.getD []) = i.val + 1 := by decide
theorem kindS_of (w : List UInt8) (i : Nat) (h : wordsL[i]? = some w) : kindS w = i + 1 := by
  have hi : i < 20 := (List.getElem?_eq_some_iff.1 h).1
  have := kind_words ⟨i, hi⟩
  rw [show (wordsL[(⟨i, hi⟩ : Fin 20).val]?) = some w from h] at this
  exact this
theorem kindS_at (w : List UInt8) (h : kindS w ≠ 0) : wordsL[kindS w - 1]? = some w := by
  rcases idxW_at w wordsL 0 with e | ⟨j, e, hj⟩
  · unfold kindS at h
    rw [e] at h
    exact absurd rfl h
  · have : kindS w = j + 1 := kindS_of w j hj
    rw [this]
    exact hj
theorem r64_0 : R64 0 := ⟨by decide, by decide⟩
theorem cdR_kind (k : Nat) (h : k ≤ 20) : CdR (kindC k) := by
  have z : R64 0 := ⟨by decide, by decide⟩
  exact ⟨z, z, z, z, z, z, z, z, z, fun q hq => by cases hq⟩
theorem cdR_set {c : CD} (h : CdR c) (f : Nat) {n : Int} (hn : R64 n) : CdR (setF c f n) := by
  obtain ⟨h1, h2, h3, h4, h5, h6, h7, h8, h9, h10⟩ := h
  unfold setF
  split <;> constructor <;> assumption
theorem chunk3_R : ∀ ws : List (List UInt8), ∀ q ∈ chunk3 ws, LnR q
  | a :: b :: c :: ws, q, h => by
    rcases List.mem_cons.1 h with rfl | h
    · exact ⟨rnumV_range a, rnumV_range b, r64_0, rnumV_range c⟩
    · exact chunk3_R ws q h
  | [], q, h => by cases h
  | [_], q, h => by cases h
  | [_, _], q, h => by cases h
theorem chunk2_R : ∀ ws : List (List UInt8), ∀ q ∈ chunk2 ws, LnR q
  | a :: b :: ws, q, h => by
    rcases List.mem_cons.1 h with rfl | h
    · exact ⟨r64_0, r64_0, rnumV_range a, rnumV_range b⟩
    · exact chunk2_R ws q h
  | [], q, h => by cases h
  | [_], q, h => by cases h
theorem chunk3_len : ∀ ws : List (List UInt8), (chunk3 ws).length ≤ ws.length
  | a :: b :: c :: ws => by
    have := chunk3_len ws
    show (chunk3 ws).length + 1 ≤ ws.length + 1 + 1 + 1
    omega
  | [] => Nat.zero_le _
  | [_] => Nat.zero_le _
  | [_, _] => Nat.zero_le _
theorem chunk2_len : ∀ ws : List (List UInt8), (chunk2 ws).length ≤ ws.length
  | a :: b :: ws => by
    have := chunk2_len ws
    show (chunk2 ws).length + 1 ≤ ws.length + 1 + 1
    omega
  | [] => Nat.zero_le _
  | [_] => Nat.zero_le _
theorem rfieldsS_good : ∀ (fs : List Nat) (c : CD) (s : List UInt8) (more : Bool) (N : Nat), s.length ≤ N → CdR c → c.nm.length ≤ N → c.ls.length ≤ N + 1 → CdR (rfieldsS fs c s more) ∧ (rfieldsS fs c s more).nm.length ≤ N ∧ (rfieldsS fs c s more).ls.length ≤ N + 1
  | [], c, s, more, N, _, h1, h2, h3 => ⟨h1, h2, h3⟩
  | f :: fs, c, s, more, N, hs, h1, h2, h3 => by
    have hcl := cutL_less s
    have hsp := splitL_len s
    unfold rfieldsS
    split
    · exact ⟨h1, h2, h3⟩
    split
    · exact ⟨⟨h1.y, h1.x, h1.f, h1.o, h1.n, h1.p, h1.d, h1.l, h1.a, h1.ls⟩, hs, h3⟩
    split
    · refine ⟨⟨h1.y, h1.x, h1.f, h1.o, h1.n, h1.p, h1.d, h1.l, h1.a, chunk3_R _⟩, h2, ?_⟩
      exact Nat.le_trans (chunk3_len _) (by omega)
    split
    · refine ⟨⟨h1.y, h1.x, h1.f, h1.o, h1.n, h1.p, h1.d, h1.l, h1.a, chunk2_R _⟩, h2, ?_⟩
      exact Nat.le_trans (chunk2_len _) (by omega)
    split
    · exact rfieldsS_good fs _ _ _ N (by omega) ⟨h1.y, h1.x, h1.f, h1.o, h1.n, h1.p, h1.d, h1.l, h1.a, h1.ls⟩ h2 h3
    · exact rfieldsS_good fs _ _ _ N (by omega) (cdR_set h1 f (rnumV_range _)) (by rw [(setF_parts c f _).1]; exact h2) (by rw [(setF_parts c f _).2.1]; exact h3)
theorem rparseC_good (s : List UInt8) (h : s.length ≤ 4096) : CdR (rparseC s) ∧ (rparseC s).nm.length ≤ 4096 ∧ (rparseC s).ls.length ≤ 4097 := by
  have hcl := cutL_less s
  exact rfieldsS_good _ _ _ _ 4096 (by omega) (cdR_kind _ (kindS_eq _).2) (Nat.zero_le _) (Nat.zero_le _)
theorem rparseS_len (s : List UInt8) : (rparseS s).1.ls.length ≤ 10000 := by
  unfold rparseS
  split
  · exact Nat.zero_le _
  · next h4 =>
    split
    · exact Nat.zero_le _
    split
    · exact Nat.le_trans (rparseC_good s (by omega)).2.2 (by decide)
    · exact Nat.zero_le _
theorem rparse (s : List UInt8) (F : Heap) : FnK Try.prog 8 #[str s] F (fun v F' => (∃ A cc, v = .tuple #[aggOf (rparseS s).1 A cc, .int .i64 (rparseS s).2] ∧ RowAt F' A (linesV (rparseS s).1.ls)) ∧ Ext F F') := by
  obtain ⟨res, hres⟩ : ∃ r, r = rparseS s := ⟨_, rfl⟩
  rw [← hres]
  unfold rparseS at hres
  by_cases h4 : 4096 < s.length
  · rw [if_pos h4] at hres
    subst hres
    (refine fn_walk tab_ok Try.func8 rfl rfl rfl rfl ?_; (conv => whnf))
    refine new_step (cmdO 0 0 0 0 0 0 0 0 0 0 false ⟨#[]⟩ (.slice none 0 0)) rfl fun z h0_z => ?_
    have hE_z := Ext.new h0_z (cmdO 0 0 0 0 0 0 0 0 0 0 false ⟨#[]⟩ (.slice none 0 0))
    have hB_z := Heap.put_same F z (cmdO 0 0 0 0 0 0 0 0 0 0 false ⟨#[]⟩ (.slice none 0 0))
    generalize F.put z _ = F1 at hE_z hB_z ⊢
    ((conv => whnf); repeat (first | (apply load_at; (conv => lhs; whnf); (with_reducible assumption); rfl; (conv => whnf)) | (apply load_at; (conv => lhs; rw [add_plain, add_plain]); (with_reducible assumption); rfl; (conv => whnf)) | (apply loads_at; (conv => lhs; whnf); (with_reducible assumption); rfl; (conv => whnf)) | (refine ⟨⟨by omega, by omega⟩, ?_⟩; (conv => whnf))))
    refine cond_split (fun h => ?_) (fun h => ?_)
    · ((conv => whnf); repeat (first | (apply load_at; (conv => lhs; whnf); (with_reducible assumption); rfl; (conv => whnf)) | (apply load_at; (conv => lhs; rw [add_plain, add_plain]); (with_reducible assumption); rfl; (conv => whnf)) | (apply loads_at; (conv => lhs; whnf); (with_reducible assumption); rfl; (conv => whnf)) | (refine ⟨⟨by omega, by omega⟩, ?_⟩; (conv => whnf))))
      refine store_step z 0 _ (cmdC 0 0 0 0 0 0 0 0 0 0 false ⟨#[]⟩ (.slice none 0 0)) rfl hB_z rfl rfl (.inl (Nat.le_refl 0)) zero_ones ?_
      rw [show F1.put z (cmdO 0 0 0 0 0 0 0 0 0 0 false ⟨#[]⟩ (.slice none 0 0)) = F1 from put_back hB_z]
      ((conv => whnf); repeat (first | (apply load_at; (conv => lhs; whnf); (with_reducible assumption); rfl; (conv => whnf)) | (apply load_at; (conv => lhs; rw [add_plain, add_plain]); (with_reducible assumption); rfl; (conv => whnf)) | (apply loads_at; (conv => lhs; whnf); (with_reducible assumption); rfl; (conv => whnf)) | (refine ⟨⟨by omega, by omega⟩, ?_⟩; (conv => whnf))))
      refine res_cells tab_ok rfl rfl hB_z rfl ?_
      ((conv => whnf); repeat (first | (apply load_at; (conv => lhs; whnf); (with_reducible assumption); rfl; (conv => whnf)) | (apply load_at; (conv => lhs; rw [add_plain, add_plain]); (with_reducible assumption); rfl; (conv => whnf)) | (apply loads_at; (conv => lhs; whnf); (with_reducible assumption); rfl; (conv => whnf)) | (refine ⟨⟨by omega, by omega⟩, ?_⟩; (conv => whnf))))
      exact ⟨⟨none, 0, rfl, RowAt.nil _ _⟩, hE_z⟩
    · have h : decide ((s.length : Int) > 4096) = false := h
      have := of_decide_eq_false h
      omega
  rw [if_neg h4] at hres
  have hs : s.length ≤ 4096 := by omega
  have hgood := rparseC_good s hs
  have hrc : rparseC s = rfieldsS (asksL (kindS (cutL s).1)) (kindC (kindS (cutL s).1)) (cutL s).2.1 (cutL s).2.2 := rfl
  have hcut := fun F => rcut s (by omega) F
  have hcl := cutL_less s
  generalize cutL s = p0 at hres hrc hcut hcl
  obtain ⟨w, rest, more⟩ := p0
  replace hcut : ∀ F, FnK Try.prog 21 #[str s] F (fun v F' => v = .tuple #[str w, str rest, .bool more] ∧ F' = F) := hcut
  replace hcl : rest.length ≤ 5000 := Nat.le_trans hcl.2.1 (by omega)
  obtain ⟨_, hk20⟩ := kindS_eq w
  have hkat := kindS_at w
  have hkof := kindS_of w
  have hrd := fun hk F => read (kindS w) hk rest hcl more F
  dsimp only at hrc hres
  rw [← hrc] at hrd
  clear hrc
  generalize rparseC s = cd at hrd hgood hres
  generalize kindS w = k at hk20 hkat hkof hrd hres
  obtain ⟨hgR, hgn, hgl⟩ := hgood
  have hpr := fun (hk : mayB cd = true) A c F h => rprint cd ((mayB_iff cd).1 hk).1 hgR A c F h (by omega) (by omega)
  generalize hpc : printP cd = pc at hpr hres
  have hpq := str_beq pc s
  obtain ⟨kk, y, x, f, o, n, pp, d, l, a, ab, nm, ls⟩ := cd
  replace hgn : nm.length ≤ 4096 := hgn
  replace hgl : ls.length ≤ 4097 := hgl
  have hen := fun A c F h => rencode kk y x f o n pp d l a ab nm ls A c F h (by omega) (by omega)
  replace hrd : 1 ≤ k ∧ k ≤ 20 → ∀ F, FnK Try.prog 22 #[.int .i64 (k : Int), str rest, .bool more] F (fun v F' => (∃ A c, v = .agg (cmdC kk y x f o n pp d l a ab ⟨nm.toArray⟩ (.slice A ls.length c)) ∧ RowAt F' A (linesV ls) ∧ ∀ a, A = some a → F a.block = none) ∧ Ext F F') := hrd
  replace hpr : mayB ⟨kk, y, x, f, o, n, pp, d, l, a, ab, nm, ls⟩ = true → ∀ A c F, RowAt F A (linesV ls) → FnK Try.prog 24 #[.agg (cmdC kk y x f o n pp d l a ab ⟨nm.toArray⟩ (.slice A ls.length c))] F (fun v F' => v = str pc ∧ Ext F F') := hpr
  generalize mayB ⟨kk, y, x, f, o, n, pp, d, l, a, ab, nm, ls⟩ = q at hres hen hpr
  (refine fn_walk tab_ok Try.func8 rfl rfl rfl rfl ?_; (conv => whnf))
  refine new_step (cmdO 0 0 0 0 0 0 0 0 0 0 false ⟨#[]⟩ (.slice none 0 0)) rfl fun z h0_z => ?_
  have hE_z := Ext.new h0_z (cmdO 0 0 0 0 0 0 0 0 0 0 false ⟨#[]⟩ (.slice none 0 0))
  have hB_z := Heap.put_same F z (cmdO 0 0 0 0 0 0 0 0 0 0 false ⟨#[]⟩ (.slice none 0 0))
  generalize F.put z _ = F1 at hE_z hB_z ⊢
  ((conv => whnf); repeat (first | (apply load_at; (conv => lhs; whnf); (with_reducible assumption); rfl; (conv => whnf)) | (apply load_at; (conv => lhs; rw [add_plain, add_plain]); (with_reducible assumption); rfl; (conv => whnf)) | (apply loads_at; (conv => lhs; whnf); (with_reducible assumption); rfl; (conv => whnf)) | (refine ⟨⟨by omega, by omega⟩, ?_⟩; (conv => whnf))))
  refine cond_split (fun h => ?_) (fun h => ?_)
  · have h : decide ((s.length : Int) > 4096) = true := h
    have := of_decide_eq_true h
    omega
  ((conv => whnf); repeat (first | (apply load_at; (conv => lhs; whnf); (with_reducible assumption); rfl; (conv => whnf)) | (apply load_at; (conv => lhs; rw [add_plain, add_plain]); (with_reducible assumption); rfl; (conv => whnf)) | (apply loads_at; (conv => lhs; whnf); (with_reducible assumption); rfl; (conv => whnf)) | (refine ⟨⟨by omega, by omega⟩, ?_⟩; (conv => whnf))))
  refine call_of (hcut F1) ?_
  rintro v F2 ⟨rfl, rfl⟩
  ((conv => whnf); repeat (first | (apply load_at; (conv => lhs; whnf); (with_reducible assumption); rfl; (conv => whnf)) | (apply load_at; (conv => lhs; rw [add_plain, add_plain]); (with_reducible assumption); rfl; (conv => whnf)) | (apply loads_at; (conv => lhs; whnf); (with_reducible assumption); rfl; (conv => whnf)) | (refine ⟨⟨by omega, by omega⟩, ?_⟩; (conv => whnf))))
  refine call_of (rwords F2) ?_
  rintro v F3 ⟨g, rfl, hrg, h0g, hE3⟩
  have hz3 := hE3 _ _ hB_z
  replace hE3 := hE_z.trans hE3
  ((conv => whnf); repeat (first | (apply load_at; (conv => lhs; whnf); (with_reducible assumption); rfl; (conv => whnf)) | (apply load_at; (conv => lhs; rw [add_plain, add_plain]); (with_reducible assumption); rfl; (conv => whnf)) | (apply loads_at; (conv => lhs; whnf); (with_reducible assumption); rfl; (conv => whnf)) | (refine ⟨⟨by omega, by omega⟩, ?_⟩; (conv => whnf))))
  refine loop_slots [0, 2, 4, 5, 6, 7, 8] (fun m vs F' => ∃ j : Nat, j + m = 20 ∧ vs = [str s, .pointer (some ⟨z, 0, none⟩), str w, str rest, .bool more, .slice (some ⟨g, 0, none⟩) 20 20, .int .i64 (j : Int)] ∧ (k ≠ 0 → k ≤ j → res = (zeroC, 14)) ∧ F' z = some (cmdO 0 0 0 0 0 0 0 0 0 0 false ⟨#[]⟩ (.slice none 0 0)) ∧ RowAt F' (some ⟨g, 0, none⟩) (txV wordsL) ∧ Ext F F') 20 ⟨0, by omega, rfl, fun h0 h => by omega, hz3, hrg, hE3⟩ ?_
  rintro m vs F4 ρ ⟨j, hjm, rfl, hpast, hz4, hrg4, hE4⟩
  ((conv => whnf); repeat (first | (apply load_at; (conv => lhs; whnf); (with_reducible assumption); rfl; (conv => whnf)) | (apply load_at; (conv => lhs; rw [add_plain, add_plain]); (with_reducible assumption); rfl; (conv => whnf)) | (apply loads_at; (conv => lhs; whnf); (with_reducible assumption); rfl; (conv => whnf)) | (refine ⟨⟨by omega, by omega⟩, ?_⟩; (conv => whnf))))
  refine cond_split (fun h => ?_) (fun h => ?_)
  · have hj : j < 20 := by
      have h : decide ((j : Int) < ((20 : Nat) : Int)) = true := h
      have := of_decide_eq_true h
      omega
    have hws : IntKind.i64.wrap ((j : Int) + 1) = ((j + 1 : Nat) : Int) := wrap_succ (by omega)
    have hx : wordsL[j]? = some (wordsL[j]'hj) := List.getElem?_eq_getElem hj
    have hcell := tx_cell hrg4 hx
    generalize wordsL[j]'hj = u at hx hcell
    have huw := str_beq u w
    ((conv => whnf); repeat (first | (apply load_at; (conv => lhs; whnf); (with_reducible assumption); rfl; (conv => whnf)) | (apply load_at; (conv => lhs; rw [add_plain, add_plain]); (with_reducible assumption); rfl; (conv => whnf)) | (apply loads_at; (conv => lhs; whnf); (with_reducible assumption); rfl; (conv => whnf)) | (refine ⟨⟨by omega, by omega⟩, ?_⟩; (conv => whnf))))
    refine load_step hcell ?_
    ((conv => whnf); repeat (first | (apply load_at; (conv => lhs; whnf); (with_reducible assumption); rfl; (conv => whnf)) | (apply load_at; (conv => lhs; rw [add_plain, add_plain]); (with_reducible assumption); rfl; (conv => whnf)) | (apply loads_at; (conv => lhs; whnf); (with_reducible assumption); rfl; (conv => whnf)) | (refine ⟨⟨by omega, by omega⟩, ?_⟩; (conv => whnf))))
    refine cond_split (fun h => ?_) (fun h => ?_)
    · have hne : u ≠ w := by
        have h : (!((⟨u.toArray⟩ : ByteArray).toList == (⟨w.toArray⟩ : ByteArray).toList)) = true := h
        rw [huw] at h
        simpa using h
      ((conv => whnf); repeat (first | (apply load_at; (conv => lhs; whnf); (with_reducible assumption); rfl; (conv => whnf)) | (apply load_at; (conv => lhs; rw [add_plain, add_plain]); (with_reducible assumption); rfl; (conv => whnf)) | (apply loads_at; (conv => lhs; whnf); (with_reducible assumption); rfl; (conv => whnf)) | (refine ⟨⟨by omega, by omega⟩, ?_⟩; (conv => whnf))))
      refine ⟨m - 1, by omega, j + 1, by omega, ?_, fun h0 hkj => ?_, hz4, hrg4, hE4⟩
      · rw [← hws]
        rfl
      · by_cases hkj' : k ≤ j
        · exact hpast h0 hkj'
        · have hkk : k - 1 = j := by omega
          have := hkat h0
          rw [hkk, hx] at this
          exact absurd (Option.some.inj this) hne
    · have heq : u = w := by
        have h : (!((⟨u.toArray⟩ : ByteArray).toList == (⟨w.toArray⟩ : ByteArray).toList)) = false := h
        rw [huw] at h
        simpa using h
      have hkj : k = j + 1 := hkof j (by rw [hx, heq])
      have hk0 : k ≠ 0 := by omega
      rw [if_neg hk0] at hres
      replace hrd := hrd ⟨by omega, hk20⟩
      have hkk : IntKind.i64.wrap ((j : Int) + 1) = (k : Int) := by rw [hws, hkj]
      rw [← hkk] at hrd
      refine short [0, 2, 4, 5, 6, 7, 8] [str s, .pointer (some ⟨z, 0, none⟩), str w, str rest, .bool more, .slice (some ⟨g, 0, none⟩) 20 20, .int .i64 (j : Int)] rfl fun ρ => ?_
      ((conv => whnf); repeat (first | (apply load_at; (conv => lhs; whnf); (with_reducible assumption); rfl; (conv => whnf)) | (apply load_at; (conv => lhs; rw [add_plain, add_plain]); (with_reducible assumption); rfl; (conv => whnf)) | (apply loads_at; (conv => lhs; whnf); (with_reducible assumption); rfl; (conv => whnf)) | (refine ⟨⟨by omega, by omega⟩, ?_⟩; (conv => whnf))))
      refine call_of (hrd F4) ?_
      rintro v F5 ⟨⟨A, c, rfl, hrA, hfA⟩, hE5⟩
      have hAz : ∀ a, A = some a → a.block ≠ z := fun a ha e => by
        have := hfA a ha
        rw [e, hz4] at this
        cases this
      ((conv => whnf); repeat (first | (apply load_at; (conv => lhs; whnf); (with_reducible assumption); rfl; (conv => whnf)) | (apply load_at; (conv => lhs; rw [add_plain, add_plain]); (with_reducible assumption); rfl; (conv => whnf)) | (apply loads_at; (conv => lhs; whnf); (with_reducible assumption); rfl; (conv => whnf)) | (refine ⟨⟨by omega, by omega⟩, ?_⟩; (conv => whnf))))
      refine new_step (cmdO 0 0 0 0 0 0 0 0 0 0 false ⟨#[]⟩ (.slice none 0 0)) rfl fun r h0_r => ?_
      have hE_r := Ext.new h0_r (cmdO 0 0 0 0 0 0 0 0 0 0 false ⟨#[]⟩ (.slice none 0 0))
      have hB_r := Heap.put_same F5 r (cmdO 0 0 0 0 0 0 0 0 0 0 false ⟨#[]⟩ (.slice none 0 0))
      generalize F5.put r _ = F6 at hE_r hB_r ⊢
      ((conv => whnf); repeat (first | (apply load_at; (conv => lhs; whnf); (with_reducible assumption); rfl; (conv => whnf)) | (apply load_at; (conv => lhs; rw [add_plain, add_plain]); (with_reducible assumption); rfl; (conv => whnf)) | (apply loads_at; (conv => lhs; whnf); (with_reducible assumption); rfl; (conv => whnf)) | (refine ⟨⟨by omega, by omega⟩, ?_⟩; (conv => whnf))))
      refine store_step r 0 _ (cmdC kk y x f o n pp d l a ab ⟨nm.toArray⟩ (.slice A ls.length c)) rfl hB_r rfl rfl (.inl (Nat.le_refl 0)) (cmd_ones _ _ _ _ _ _ _ _ _ _ _ _ _ _ _) ?_
      have hr7 := Heap.put_same F6 r (cmdO kk y x f o n pp d l a ab ⟨nm.toArray⟩ (.slice A ls.length c))
      have hE7 : Ext F5 (F6.put r (cmdO kk y x f o n pp d l a ab ⟨nm.toArray⟩ (.slice A ls.length c))) := hE_r.put h0_r _
      generalize F6.put r _ = F7 at hr7 hE7 ⊢
      ((conv => whnf); repeat (first | (apply load_at; (conv => lhs; whnf); (with_reducible assumption); rfl; (conv => whnf)) | (apply load_at; (conv => lhs; rw [add_plain, add_plain]); (with_reducible assumption); rfl; (conv => whnf)) | (apply loads_at; (conv => lhs; whnf); (with_reducible assumption); rfl; (conv => whnf)) | (refine ⟨⟨by omega, by omega⟩, ?_⟩; (conv => whnf))))
      refine call_of (hen A c F7 (hrA.mono hE7)) ?_
      rintro v F8 ⟨⟨rr, rfl, _⟩, hE8⟩
      have hr8 := hE8 _ _ hr7
      have hE48 := (hE5.trans hE7).trans hE8
      have hrA8 := (hrA.mono hE7).mono hE8
      have hz8 := hE48 _ _ hz4
      have hrg8 := hrg4.mono hE48
      have hE08 := hE4.trans hE48
      refine short [0, 2, 4, 5, 6, 7, 8, 9, 42] [str s, .pointer (some ⟨z, 0, none⟩), str w, str rest, .bool more, .slice (some ⟨g, 0, none⟩) 20 20, .int .i64 (j : Int), .pointer (some ⟨r, 0, none⟩), .tuple #[rr, .int .i64 (if q = true then 0 else 1)]] rfl fun ρ => ?_
      cases q with
      | false =>
        replace hres : res = (zeroC, 14) := hres
        ((conv => whnf); repeat (first | (apply load_at; (conv => lhs; whnf); (with_reducible assumption); rfl; (conv => whnf)) | (apply load_at; (conv => lhs; rw [add_plain, add_plain]); (with_reducible assumption); rfl; (conv => whnf)) | (apply loads_at; (conv => lhs; whnf); (with_reducible assumption); rfl; (conv => whnf)) | (refine ⟨⟨by omega, by omega⟩, ?_⟩; (conv => whnf))))
        refine ⟨m - 1, by omega, j + 1, by omega, ?_, fun _ _ => hres, hz8, hrg8, hE08⟩
        rw [← hws]
        rfl
      | true =>
        replace hres : res = if (pc == s) = true then (⟨kk, y, x, f, o, n, pp, d, l, a, ab, nm, ls⟩, 0) else (zeroC, 14) := hres
        ((conv => whnf); repeat (first | (apply load_at; (conv => lhs; whnf); (with_reducible assumption); rfl; (conv => whnf)) | (apply load_at; (conv => lhs; rw [add_plain, add_plain]); (with_reducible assumption); rfl; (conv => whnf)) | (apply loads_at; (conv => lhs; whnf); (with_reducible assumption); rfl; (conv => whnf)) | (refine ⟨⟨by omega, by omega⟩, ?_⟩; (conv => whnf))))
        refine call_of (hpr rfl A c F8 hrA8) ?_
        rintro v F9 ⟨rfl, hE9⟩
        have hr9 := hE9 _ _ hr8
        have hz9 := hE9 _ _ hz8
        have hrg9 := hrg8.mono hE9
        have hrA9 := hrA8.mono hE9
        have hE09 := hE08.trans hE9
        ((conv => whnf); repeat (first | (apply load_at; (conv => lhs; whnf); (with_reducible assumption); rfl; (conv => whnf)) | (apply load_at; (conv => lhs; rw [add_plain, add_plain]); (with_reducible assumption); rfl; (conv => whnf)) | (apply loads_at; (conv => lhs; whnf); (with_reducible assumption); rfl; (conv => whnf)) | (refine ⟨⟨by omega, by omega⟩, ?_⟩; (conv => whnf))))
        refine cond_split (fun h => ?_) (fun h => ?_)
        · have h : ((⟨pc.toArray⟩ : ByteArray).toList == (⟨s.toArray⟩ : ByteArray).toList) = true := h
          rw [hpq] at h
          rw [if_pos h] at hres
          ((conv => whnf); repeat (first | (apply load_at; (conv => lhs; whnf); (with_reducible assumption); rfl; (conv => whnf)) | (apply load_at; (conv => lhs; rw [add_plain, add_plain]); (with_reducible assumption); rfl; (conv => whnf)) | (apply loads_at; (conv => lhs; whnf); (with_reducible assumption); rfl; (conv => whnf)) | (refine ⟨⟨by omega, by omega⟩, ?_⟩; (conv => whnf))))
          refine store_step z 0 _ (cmdC kk y x f o n pp d l a ab ⟨nm.toArray⟩ (.slice A ls.length c)) rfl hz9 rfl rfl (.inl (Nat.le_refl 0)) (cmd_ones _ _ _ _ _ _ _ _ _ _ _ _ _ _ _) ?_
          have hzz := Heap.put_same F9 z (cmdO kk y x f o n pp d l a ab ⟨nm.toArray⟩ (.slice A ls.length c))
          ((conv => whnf); repeat (first | (apply load_at; (conv => lhs; whnf); (with_reducible assumption); rfl; (conv => whnf)) | (apply load_at; (conv => lhs; rw [add_plain, add_plain]); (with_reducible assumption); rfl; (conv => whnf)) | (apply loads_at; (conv => lhs; whnf); (with_reducible assumption); rfl; (conv => whnf)) | (refine ⟨⟨by omega, by omega⟩, ?_⟩; (conv => whnf))))
          refine res_cells tab_ok rfl rfl hzz rfl ?_
          ((conv => whnf); repeat (first | (apply load_at; (conv => lhs; whnf); (with_reducible assumption); rfl; (conv => whnf)) | (apply load_at; (conv => lhs; rw [add_plain, add_plain]); (with_reducible assumption); rfl; (conv => whnf)) | (apply loads_at; (conv => lhs; whnf); (with_reducible assumption); rfl; (conv => whnf)) | (refine ⟨⟨by omega, by omega⟩, ?_⟩; (conv => whnf))))
          rw [hres]
          refine ⟨⟨A, c, rfl, ?_⟩, fun u o hu => ?_⟩
          · exact rowAt_keepq hrA9 (Keeps.put F9 z _) hAz
          · rw [Heap.put_other F9 _ (fun e => by rw [e, h0_z] at hu; cases hu)]
            exact hE09 u o hu
        · have h : ((⟨pc.toArray⟩ : ByteArray).toList == (⟨s.toArray⟩ : ByteArray).toList) = false := h
          rw [hpq] at h
          rw [h, if_neg (by decide)] at hres
          ((conv => whnf); repeat (first | (apply load_at; (conv => lhs; whnf); (with_reducible assumption); rfl; (conv => whnf)) | (apply load_at; (conv => lhs; rw [add_plain, add_plain]); (with_reducible assumption); rfl; (conv => whnf)) | (apply loads_at; (conv => lhs; whnf); (with_reducible assumption); rfl; (conv => whnf)) | (refine ⟨⟨by omega, by omega⟩, ?_⟩; (conv => whnf))))
          refine ⟨m - 1, by omega, j + 1, by omega, ?_, fun _ _ => hres, hz9, hrg9, hE09⟩
          rw [← hws]
          rfl
  · have hj : j = 20 := by
      have h : decide ((j : Int) < ((20 : Nat) : Int)) = false := h
      have := of_decide_eq_false h
      omega
    have hr : res = (zeroC, 14) := by
      by_cases h0 : k = 0
      · rw [hres, if_pos h0]
      · exact hpast h0 (by omega)
    subst hr
    ((conv => whnf); repeat (first | (apply load_at; (conv => lhs; whnf); (with_reducible assumption); rfl; (conv => whnf)) | (apply load_at; (conv => lhs; rw [add_plain, add_plain]); (with_reducible assumption); rfl; (conv => whnf)) | (apply loads_at; (conv => lhs; whnf); (with_reducible assumption); rfl; (conv => whnf)) | (refine ⟨⟨by omega, by omega⟩, ?_⟩; (conv => whnf))))
    refine store_step z 0 _ (cmdC 0 0 0 0 0 0 0 0 0 0 false ⟨#[]⟩ (.slice none 0 0)) rfl hz4 rfl rfl (.inl (Nat.le_refl 0)) zero_ones ?_
    rw [show F4.put z (cmdO 0 0 0 0 0 0 0 0 0 0 false ⟨#[]⟩ (.slice none 0 0)) = F4 from put_back hz4]
    ((conv => whnf); repeat (first | (apply load_at; (conv => lhs; whnf); (with_reducible assumption); rfl; (conv => whnf)) | (apply load_at; (conv => lhs; rw [add_plain, add_plain]); (with_reducible assumption); rfl; (conv => whnf)) | (apply loads_at; (conv => lhs; whnf); (with_reducible assumption); rfl; (conv => whnf)) | (refine ⟨⟨by omega, by omega⟩, ?_⟩; (conv => whnf))))
    refine res_cells tab_ok rfl rfl hz4 rfl ?_
    ((conv => whnf); repeat (first | (apply load_at; (conv => lhs; whnf); (with_reducible assumption); rfl; (conv => whnf)) | (apply load_at; (conv => lhs; rw [add_plain, add_plain]); (with_reducible assumption); rfl; (conv => whnf)) | (apply loads_at; (conv => lhs; whnf); (with_reducible assumption); rfl; (conv => whnf)) | (refine ⟨⟨by omega, by omega⟩, ?_⟩; (conv => whnf))))
    exact ⟨⟨none, 0, rfl, RowAt.nil _ _⟩, hE4⟩
end Go.Proofs.Ytbgijjoemnfnmaa.Al
/- exchequer/exchequerref48.Print. -/
namespace Go.Proofs.Ytbgijjoemnfnmaa.Al
open Go Go.Al Go.Proofs Go.RowKit
set_option maxHeartbeats 8000000
set_option maxRecDepth 100000
set_option linter.unusedVariables false
set_option linter.unusedSimpArgs false

theorem rprintT (cd : CD) (hR : CdR cd) (A : Option Addr) (c : Nat) (F : Heap) (hr : RowAt F A (linesV cd.ls)) (hn : cd.nm.length ≤ 100000) (hl : cd.ls.length ≤ 10000) :
    FnK Try.prog 15 #[aggOf cd A c] F (fun v F' => (∃ out, v = .tuple #[str out.1, .int .i64 out.2] ∧ PrintRel rparseS cd out) ∧ Ext F F') := by
  have hpr := fun hk F h => rprint cd hk hR A c F h hn hl
  have hpa := rparse (printP cd)
  have hPR : ∀ out, PrintRel rparseS cd out ↔ (mayB cd = true ∧ rparseS (printP cd) = (cd, 0) → out = (printP cd, 0)) ∧ (¬ (mayB cd = true ∧ rparseS (printP cd) = (cd, 0)) → out = ([], 1)) := fun out => Iff.rfl
  have hpl := rparseS_len (printP cd)
  generalize rparseS (printP cd) = q at hpa hPR hpl
  generalize printP cd = s at hpr hpa hPR
  have hkn : mayB cd = true → knownB cd.k = true := fun h => ((mayB_iff cd).1 h).1
  obtain ⟨k, y, x, f, o, n, p, d, l, a, ab, nm, ls⟩ := cd
  obtain ⟨⟨k', y', x', f', o', n', p', d', l', a', ab', nm', ls'⟩, e⟩ := q
  replace hpl : ls'.length ≤ 10000 := hpl
  replace hl : ls.length ≤ 10000 := hl
  have hen := fun F h => rencode k y x f o n p d l a ab nm ls A c F h hn hl
  have hsm := fun B cc F h h' => rsame k y x f o n p d l a ab nm ls k' y' x' f' o' n' p' d' l' a' ab' nm' ls' A B c cc F h h' hl hpl
  replace hpr : knownB k = true → ∀ F, RowAt F A (linesV ls) → FnK Try.prog 24 #[.agg (cmdC k y x f o n p d l a ab ⟨nm.toArray⟩ (.slice A ls.length c))] F (fun v F' => v = str s ∧ Ext F F') := hpr
  replace hpa : ∀ F, FnK Try.prog 8 #[str s] F (fun v F' => (∃ B cc, v = .tuple #[.agg (cmdC k' y' x' f' o' n' p' d' l' a' ab' ⟨nm'.toArray⟩ (.slice B ls'.length cc)), .int .i64 e] ∧ RowAt F' B (linesV ls')) ∧ Ext F F') := hpa
  replace hr : RowAt F A (linesV ls) := hr
  replace hPR : ∀ out, PrintRel rparseS ⟨k, y, x, f, o, n, p, d, l, a, ab, nm, ls⟩ out ↔ (mayB ⟨k, y, x, f, o, n, p, d, l, a, ab, nm, ls⟩ = true ∧ ((⟨k', y', x', f', o', n', p', d', l', a', ab', nm', ls'⟩, e) : CD × Int) = (⟨k, y, x, f, o, n, p, d, l, a, ab, nm, ls⟩, 0) → out = (s, 0)) ∧ (¬ (mayB ⟨k, y, x, f, o, n, p, d, l, a, ab, nm, ls⟩ = true ∧ ((⟨k', y', x', f', o', n', p', d', l', a', ab', nm', ls'⟩, e) : CD × Int) = (⟨k, y, x, f, o, n, p, d, l, a, ab, nm, ls⟩, 0)) → out = ([], 1)) := hPR
  generalize mayB ⟨k, y, x, f, o, n, p, d, l, a, ab, nm, ls⟩ = q at hen hPR hkn
  replace hkn : q = true → knownB k = true := hkn
  (refine fn_walk tab_ok Try.func15 rfl rfl rfl rfl ?_; (conv => whnf))
  refine new_step (cmdO k y x f o n p d l a ab ⟨nm.toArray⟩ (.slice A ls.length c)) rfl fun b h0_b => ?_
  have hE_b := Ext.new h0_b (cmdO k y x f o n p d l a ab ⟨nm.toArray⟩ (.slice A ls.length c))
  have hB_b := Heap.put_same F b (cmdO k y x f o n p d l a ab ⟨nm.toArray⟩ (.slice A ls.length c))
  generalize F.put b _ = F1 at hE_b hB_b ⊢
  ((conv => whnf); repeat (first | (apply load_at; (conv => lhs; whnf); (with_reducible assumption); rfl; (conv => whnf)) | (apply load_at; (conv => lhs; rw [add_plain, add_plain]); (with_reducible assumption); rfl; (conv => whnf)) | (apply loads_at; (conv => lhs; whnf); (with_reducible assumption); rfl; (conv => whnf)) | (refine ⟨⟨by omega, by omega⟩, ?_⟩; (conv => whnf))))
  refine call_of (hen F1 (hr.mono hE_b)) ?_
  rintro v F2 ⟨⟨rr, rfl, _⟩, hE2⟩
  have hb2 := hE2 _ _ hB_b
  have hE := hE_b.trans hE2
  cases q with
  | false =>
    ((conv => whnf); repeat (first | (apply load_at; (conv => lhs; whnf); (with_reducible assumption); rfl; (conv => whnf)) | (apply load_at; (conv => lhs; rw [add_plain, add_plain]); (with_reducible assumption); rfl; (conv => whnf)) | (apply loads_at; (conv => lhs; whnf); (with_reducible assumption); rfl; (conv => whnf)) | (refine ⟨⟨by omega, by omega⟩, ?_⟩; (conv => whnf))))
    exact ⟨⟨([], 1), rfl, (hPR _).2 ⟨fun h => absurd h.1 (by decide), fun _ => rfl⟩⟩, hE⟩
  | true =>
    ((conv => whnf); repeat (first | (apply load_at; (conv => lhs; whnf); (with_reducible assumption); rfl; (conv => whnf)) | (apply load_at; (conv => lhs; rw [add_plain, add_plain]); (with_reducible assumption); rfl; (conv => whnf)) | (apply loads_at; (conv => lhs; whnf); (with_reducible assumption); rfl; (conv => whnf)) | (refine ⟨⟨by omega, by omega⟩, ?_⟩; (conv => whnf))))
    refine call_of (hpr (hkn rfl) F2 (hr.mono hE)) ?_
    rintro v F3 ⟨rfl, hE3⟩
    have hb3 := hE3 _ _ hb2
    replace hE := hE.trans hE3
    ((conv => whnf); repeat (first | (apply load_at; (conv => lhs; whnf); (with_reducible assumption); rfl; (conv => whnf)) | (apply load_at; (conv => lhs; rw [add_plain, add_plain]); (with_reducible assumption); rfl; (conv => whnf)) | (apply loads_at; (conv => lhs; whnf); (with_reducible assumption); rfl; (conv => whnf)) | (refine ⟨⟨by omega, by omega⟩, ?_⟩; (conv => whnf))))
    refine call_of (hpa F3) ?_
    rintro v F4 ⟨⟨B, cc, rfl, hrB⟩, hE4⟩
    have hb4 := hE4 _ _ hb3
    replace hE := hE.trans hE4
    ((conv => whnf); repeat (first | (apply load_at; (conv => lhs; whnf); (with_reducible assumption); rfl; (conv => whnf)) | (apply load_at; (conv => lhs; rw [add_plain, add_plain]); (with_reducible assumption); rfl; (conv => whnf)) | (apply loads_at; (conv => lhs; whnf); (with_reducible assumption); rfl; (conv => whnf)) | (refine ⟨⟨by omega, by omega⟩, ?_⟩; (conv => whnf))))
    refine new_step (cmdO 0 0 0 0 0 0 0 0 0 0 false ⟨#[]⟩ (.slice none 0 0)) rfl fun z h0_z => ?_
    have hE_z := Ext.new h0_z (cmdO 0 0 0 0 0 0 0 0 0 0 false ⟨#[]⟩ (.slice none 0 0))
    have hB_z := Heap.put_same F4 z (cmdO 0 0 0 0 0 0 0 0 0 0 false ⟨#[]⟩ (.slice none 0 0))
    generalize F4.put z _ = F5 at hE_z hB_z ⊢
    ((conv => whnf); repeat (first | (apply load_at; (conv => lhs; whnf); (with_reducible assumption); rfl; (conv => whnf)) | (apply load_at; (conv => lhs; rw [add_plain, add_plain]); (with_reducible assumption); rfl; (conv => whnf)) | (apply loads_at; (conv => lhs; whnf); (with_reducible assumption); rfl; (conv => whnf)) | (refine ⟨⟨by omega, by omega⟩, ?_⟩; (conv => whnf))))
    refine store_step z 0 _ (cmdC k' y' x' f' o' n' p' d' l' a' ab' ⟨nm'.toArray⟩ (.slice B ls'.length cc)) rfl hB_z rfl rfl (.inl (Nat.le_refl 0)) (cmd_ones _ _ _ _ _ _ _ _ _ _ _ _ _ _ _) ?_
    have hz6 := Heap.put_same F5 z (cmdO k' y' x' f' o' n' p' d' l' a' ab' ⟨nm'.toArray⟩ (.slice B ls'.length cc))
    have hE6 : Ext F4 (F5.put z (cmdO k' y' x' f' o' n' p' d' l' a' ab' ⟨nm'.toArray⟩ (.slice B ls'.length cc))) := hE_z.put h0_z _
    generalize F5.put z _ = F6 at hz6 hE6 ⊢
    have hb6 := hE6 _ _ hb4
    replace hE := hE.trans hE6
    refine short [1, 6, 7, 22] [.pointer (some ⟨b, 0, none⟩), str s, .pointer (some ⟨z, 0, none⟩), .int .i64 e] rfl fun ρ => ?_
    ((conv => whnf); repeat (first | (apply load_at; (conv => lhs; whnf); (with_reducible assumption); rfl; (conv => whnf)) | (apply load_at; (conv => lhs; rw [add_plain, add_plain]); (with_reducible assumption); rfl; (conv => whnf)) | (apply loads_at; (conv => lhs; whnf); (with_reducible assumption); rfl; (conv => whnf)) | (refine ⟨⟨by omega, by omega⟩, ?_⟩; (conv => whnf))))
    refine cond_split (fun h => ?_) (fun h => ?_)
    · have he : e = 0 := by
        have h : (!(!decide (e = 0))) = true := h
        simpa using h
      ((conv => whnf); repeat (first | (apply load_at; (conv => lhs; whnf); (with_reducible assumption); rfl; (conv => whnf)) | (apply load_at; (conv => lhs; rw [add_plain, add_plain]); (with_reducible assumption); rfl; (conv => whnf)) | (apply loads_at; (conv => lhs; whnf); (with_reducible assumption); rfl; (conv => whnf)) | (refine ⟨⟨by omega, by omega⟩, ?_⟩; (conv => whnf))))
      refine call_of (hsm B cc F6 (hr.mono hE) ((hrB.mono hE6))) ?_
      rintro v F7 ⟨⟨t, rfl, ht⟩, hE7⟩
      replace hE := hE.trans hE7
      cases t with
      | true =>
        ((conv => whnf); repeat (first | (apply load_at; (conv => lhs; whnf); (with_reducible assumption); rfl; (conv => whnf)) | (apply load_at; (conv => lhs; rw [add_plain, add_plain]); (with_reducible assumption); rfl; (conv => whnf)) | (apply loads_at; (conv => lhs; whnf); (with_reducible assumption); rfl; (conv => whnf)) | (refine ⟨⟨by omega, by omega⟩, ?_⟩; (conv => whnf))))
        refine ⟨⟨(s, 0), rfl, (hPR _).2 ⟨fun _ => rfl, fun hno => absurd ⟨rfl, ?_⟩ hno⟩⟩, hE⟩
        rw [ht.1 rfl, he]
      | false =>
        ((conv => whnf); repeat (first | (apply load_at; (conv => lhs; whnf); (with_reducible assumption); rfl; (conv => whnf)) | (apply load_at; (conv => lhs; rw [add_plain, add_plain]); (with_reducible assumption); rfl; (conv => whnf)) | (apply loads_at; (conv => lhs; whnf); (with_reducible assumption); rfl; (conv => whnf)) | (refine ⟨⟨by omega, by omega⟩, ?_⟩; (conv => whnf))))
        refine ⟨⟨([], 1), rfl, (hPR _).2 ⟨fun hyes => ?_, fun _ => rfl⟩⟩, hE⟩
        have := ht.2 (Prod.mk.inj hyes.2).1.symm
        cases this
    · have he : ¬ e = 0 := by
        have h : (!(!decide (e = 0))) = false := h
        simpa using h
      ((conv => whnf); repeat (first | (apply load_at; (conv => lhs; whnf); (with_reducible assumption); rfl; (conv => whnf)) | (apply load_at; (conv => lhs; rw [add_plain, add_plain]); (with_reducible assumption); rfl; (conv => whnf)) | (apply loads_at; (conv => lhs; whnf); (with_reducible assumption); rfl; (conv => whnf)) | (refine ⟨⟨by omega, by omega⟩, ?_⟩; (conv => whnf))))
      refine ⟨⟨([], 1), rfl, (hPR _).2 ⟨fun hyes => ?_, fun _ => rfl⟩⟩, hE⟩
      exact absurd (Prod.mk.inj hyes.2).2 he
end Go.Proofs.Ytbgijjoemnfnmaa.Al
/- The plain law: both parsers read the same. -/
namespace Go.Proofs.Ytbgijjoemnfnmaa.Al
open Go Go.Al Go.Proofs Go.RowKit
set_option maxRecDepth 100000
set_option linter.unusedVariables false
set_option linter.unusedSimpArgs false
def outB (more : Bool) (s : List UInt8) : List UInt8 := if more = true then 32 :: s else []
theorem cut_out (l : List UInt8) : l = (cutL l).1 ++ outB (cutL l).2.2 (cutL l).2.1 := by
  induction l with
  | nil => rfl
  | cons b l ih =>
    rw [cutL_cons]
    by_cases h : b = 32
    · rw [if_pos h, h]
      rfl
    · rw [if_neg h]
      exact congrArg (b :: ·) ih
theorem cut_word : ∀ (w T : List UInt8), (∀ x ∈ w, x ≠ 32) → (T = [] ∨ ∃ t, T = 32 :: t) → (cutL (w ++ T)).1 = w ∧ outB (cutL (w ++ T)).2.2 (cutL (w ++ T)).2.1 = T
  | [], T, _, hT => by
    rcases hT with rfl | ⟨t, rfl⟩
    · exact ⟨rfl, rfl⟩
    · exact ⟨rfl, rfl⟩
  | b :: w, T, h, hT => by
    have hb : b ≠ 32 := h b (by simp)
    obtain ⟨h1, h2⟩ := cut_word w T (fun x hx => h x (by simp [hx])) hT
    show (cutL (b :: (w ++ T))).1 = _ ∧ outB (cutL (b :: (w ++ T))).2.2 (cutL (b :: (w ++ T))).2.1 = T
    rw [cutL_cons, if_neg hb]
    exact ⟨congrArg (b :: ·) h1, h2⟩
theorem tail_form (ws : List (List UInt8)) : tailL ws = [] ∨ ∃ t, tailL ws = 32 :: t := by
  cases ws with
  | nil => exact .inl rfl
  | cons w ws => exact .inr ⟨w ++ tailL ws, rfl⟩
theorem tailL_cons (w : List UInt8) (ws : List (List UInt8)) : tailL (w :: ws) = 32 :: (w ++ tailL ws) := rfl
theorem outB_eq {more : Bool} {s t : List UInt8} (h : outB more s = 32 :: t) : more = true ∧ s = t := by
  cases more with
  | false => cases h
  | true => exact ⟨rfl, (List.cons.inj h).2⟩
theorem isDig_blank {x : UInt8} (h : isDig x = true) : x ≠ 32 := by
  rintro rfl
  exact absurd h (by decide)
theorem txt_blank (n : Int) : ∀ x ∈ txt n, x ≠ 32 := by
  have hd := List.all_eq_true.1 (digs_dig n.natAbs)
  intro x hx
  unfold txt at hx
  split at hx
  · rcases List.mem_cons.1 hx with rfl | hx
    · decide
    · exact isDig_blank (hd x (List.mem_reverse.1 hx))
  · exact isDig_blank (hd x (List.mem_reverse.1 hx))
/-- A number that is read well. -/
theorem numS_sound (r : RD) (h : (numS r).2.bad = false) : r.bad = false ∧ r.more = true ∧ r.rest = txt (numS r).1 ++ outB (numS r).2.more (numS r).2.rest ∧ (cutL r.rest).1 = txt (numS r).1 ∧ (cutL r.rest).2 = ((numS r).2.rest, (numS r).2.more) ∧ R64 (numS r).1 := by
  obtain ⟨rest, more, bad⟩ := r
  cases more with
  | false =>
    have hx : (numS ⟨rest, false, bad⟩).2.bad = true := rfl
    rw [hx] at h
    cases h
  | true =>
    have hw : wordS ⟨rest, true, bad⟩ = ((cutL rest).1, ⟨(cutL rest).2.1, (cutL rest).2.2, bad⟩) := rfl
    have hn : numS ⟨rest, true, bad⟩ = ((numV (cutL rest).1).1, ⟨(cutL rest).2.1, (cutL rest).2.2, bad || (!(numV (cutL rest).1).2 || !(txt (numV (cutL rest).1).1 == (cutL rest).1))⟩) := rfl
    rw [hn] at h ⊢
    have hc := cut_out rest
    have hrg := numV_range (cutL rest).1
    generalize cutL rest = p at h hc hrg ⊢
    obtain ⟨w, rest', more'⟩ := p
    dsimp only at h hc hrg ⊢
    generalize numV w = nv at h hrg ⊢
    obtain ⟨n, ok⟩ := nv
    dsimp only at h hrg ⊢
    rw [Bool.or_eq_false_iff, Bool.or_eq_false_iff] at h
    obtain ⟨h1, h2, h3⟩ := h
    have h3 : txt n = w := by simpa using h3
    exact ⟨h1, rfl, by rw [h3]; exact hc, h3.symm, rfl, hrg⟩
theorem numS_whole (n : Int) (hn : R64 n) (T : List UInt8) (hT : T = [] ∨ ∃ t, T = 32 :: t) (s : List UInt8) (hs : s = txt n ++ T) : (cutL s).1 = txt n ∧ outB (cutL s).2.2 (cutL s).2.1 = T ∧ numS ⟨s, true, false⟩ = (n, ⟨(cutL s).2.1, (cutL s).2.2, false⟩) := by
  subst hs
  obtain ⟨h1, h2⟩ := cut_word (txt n) T (txt_blank n) hT
  refine ⟨h1, h2, ?_⟩
  have hnn : numS ⟨txt n ++ T, true, false⟩ = ((numV (cutL (txt n ++ T)).1).1, ⟨(cutL (txt n ++ T)).2.1, (cutL (txt n ++ T)).2.2, false || (!(numV (cutL (txt n ++ T)).1).2 || !(txt (numV (cutL (txt n ++ T)).1).1 == (cutL (txt n ++ T)).1))⟩) := rfl
  rw [hnn, h1, numV_txt n hn.1 hn.2]
  simp
theorem numS_bad (r : RD) (h : r.bad = true) : (numS r).2.bad = true := by
  have : (wordS r).2.bad = true := by
    unfold wordS
    split
    · exact h
    · rfl
  show ((wordS r).2.bad || (!(numV (wordS r).1).2 || !(txt (numV (wordS r).1).1 == (wordS r).1))) = true
  rw [this]
  rfl
theorem split_more {s w t : List UInt8} {more : Bool} (h1 : (cutL s).1 = w) (h2 : (cutL s).2 = (t, more)) : splitL s = if more = true then w :: splitL t else [w] := by
  rw [splitL_cut, h1, h2]
def chunkT (thr : Bool) (ws : List (List UInt8)) : List LD := if thr = true then chunk3 ws else chunk2 ws
theorem lines_sound (thr : Bool) : ∀ (m : Nat) (r : RD), mu r ≤ m → (linesS thr m r).2.bad = false → (linesS thr m r).2.more = false → r.bad = false ∧ (r.more = true → chunkT thr (splitL r.rest) = (linesS thr m r).1) ∧ tailL (linesW thr (linesS thr m r).1) = outB r.more r.rest
  | m, r, hm, hb, hmo => by
    cases hg : (r.more && !r.bad) with
    | false =>
      rw [linesS_end hg] at hb hmo ⊢
      refine ⟨hb, fun h => ?_, ?_⟩
      · dsimp only at hmo
        rw [h] at hmo; cases hmo
      · dsimp only at hmo ⊢
        rw [hmo]
        rfl
    | true =>
      rw [Bool.and_eq_true] at hg
      obtain ⟨hmt, hbf⟩ := hg
      have hbf : r.bad = false := by simpa using hbf
      have hpos : 1 ≤ mu r := by unfold mu; rw [if_pos hmt]; omega
      obtain ⟨m', rfl⟩ : ∃ m', m = m' + 1 := ⟨m - 1, by omega⟩
      rw [linesS_go (by rw [hmt, hbf]; rfl)] at hb hmo ⊢
      have hlm := (lineS_rest thr r).2 hmt
      obtain ⟨i1, i2, i3⟩ := lines_sound thr m' (lineS thr r).2 (by omega) hb hmo
      cases thr with
      | true =>
        obtain ⟨q1, hq1⟩ : ∃ q, q = numS r := ⟨_, rfl⟩
        obtain ⟨q2, hq2⟩ : ∃ q, q = numS q1.2 := ⟨_, rfl⟩
        obtain ⟨q3, hq3⟩ : ∃ q, q = numS q2.2 := ⟨_, rfl⟩
        have hl : lineS true r = (⟨q1.1, q2.1, 0, q3.1⟩, q3.2) := by
          rw [hq3, hq2, hq1]
          rfl
        rw [hl] at i1 i2 i3 ⊢
        have s3 := numS_sound q2.2 (by rw [← hq3]; exact i1)
        rw [← hq3] at s3
        have s2 := numS_sound q1.2 (by rw [← hq2]; exact s3.1)
        rw [← hq2] at s2
        have s1 := numS_sound r (by rw [← hq1]; exact s2.1)
        rw [← hq1] at s1
        obtain ⟨n1, r1⟩ := q1
        obtain ⟨n2, r2⟩ := q2
        obtain ⟨n3, r3⟩ := q3
        dsimp only at s1 s2 s3 i1 i2 i3 ⊢
        obtain ⟨a1, a2, a3, a4, a5, a6⟩ := s1
        obtain ⟨b1, b2, b3, b4, b5, b6⟩ := s2
        obtain ⟨c1, c2, c3, c4, c5, c6⟩ := s3
        have e1 := split_more a4 a5
        have e2 := split_more b4 b5
        have e3 := split_more c4 c5
        rw [if_pos b2] at e1
        rw [if_pos c2] at e2
        rw [e2] at e1
        refine ⟨hbf, fun _ => ?_, ?_⟩
        · rw [e1]
          cases hr3 : r3.more with
          | true =>
            rw [hr3, if_pos rfl] at e3
            rw [e3]
            show (⟨rnumV (txt n1), rnumV (txt n2), 0, rnumV (txt n3)⟩ : LD) :: chunk3 (splitL r3.rest) = _
            rw [rnumV_txt n1 a6, rnumV_txt n2 b6, rnumV_txt n3 c6]
            exact congrArg _ (i2 hr3)
          | false =>
            rw [hr3, if_neg (by decide)] at e3
            rw [e3, linesS_end (by rw [hr3]; rfl)]
            show [(⟨rnumV (txt n1), rnumV (txt n2), 0, rnumV (txt n3)⟩ : LD)] = _
            rw [rnumV_txt n1 a6, rnumV_txt n2 b6, rnumV_txt n3 c6]
        · show 32 :: (txt n1 ++ 32 :: (txt n2 ++ 32 :: (txt n3 ++ tailL (linesW true (linesS true m' r3).1)))) = _
          rw [i3, ← c3]
          have hx2 : 32 :: r2.rest = outB r2.more r2.rest := by unfold outB; rw [if_pos c2]
          rw [hx2, ← b3]
          have hx1 : 32 :: r1.rest = outB r1.more r1.rest := by unfold outB; rw [if_pos b2]
          rw [hx1, ← a3]
          unfold outB
          rw [if_pos hmt]
      | false =>
        obtain ⟨q1, hq1⟩ : ∃ q, q = numS r := ⟨_, rfl⟩
        obtain ⟨q2, hq2⟩ : ∃ q, q = numS q1.2 := ⟨_, rfl⟩
        have hl : lineS false r = (⟨0, 0, q1.1, q2.1⟩, q2.2) := by
          rw [hq2, hq1]
          rfl
        rw [hl] at i1 i2 i3 ⊢
        have s2 := numS_sound q1.2 (by rw [← hq2]; exact i1)
        rw [← hq2] at s2
        have s1 := numS_sound r (by rw [← hq1]; exact s2.1)
        rw [← hq1] at s1
        obtain ⟨n1, r1⟩ := q1
        obtain ⟨n2, r2⟩ := q2
        dsimp only at s1 s2 i1 i2 i3 ⊢
        obtain ⟨a1, a2, a3, a4, a5, a6⟩ := s1
        obtain ⟨b1, b2, b3, b4, b5, b6⟩ := s2
        have e1 := split_more a4 a5
        have e2 := split_more b4 b5
        rw [if_pos b2] at e1
        refine ⟨hbf, fun _ => ?_, ?_⟩
        · rw [e1]
          cases hr2 : r2.more with
          | true =>
            rw [hr2, if_pos rfl] at e2
            rw [e2]
            show (⟨0, 0, rnumV (txt n1), rnumV (txt n2)⟩ : LD) :: chunk2 (splitL r2.rest) = _
            rw [rnumV_txt n1 a6, rnumV_txt n2 b6]
            exact congrArg _ (i2 hr2)
          | false =>
            rw [hr2, if_neg (by decide)] at e2
            rw [e2, linesS_end (by rw [hr2]; rfl)]
            show [(⟨0, 0, rnumV (txt n1), rnumV (txt n2)⟩ : LD)] = _
            rw [rnumV_txt n1 a6, rnumV_txt n2 b6]
        · show 32 :: (txt n1 ++ 32 :: (txt n2 ++ tailL (linesW false (linesS false m' r2).1))) = _
          rw [i3, ← b3]
          have hx1 : 32 :: r1.rest = outB r1.more r1.rest := by unfold outB; rw [if_pos b2]
          rw [hx1, ← a3]
          unfold outB
          rw [if_pos hmt]
/-- Lines as they are read. -/
def Norm (thr : Bool) (l : LD) : Prop := LnR l ∧ (if thr = true then l.n = 0 else l.f = 0 ∧ l.o = 0)
theorem lines_whole (thr : Bool) : ∀ (ls : List LD) (m : Nat) (s : List UInt8) (more : Bool), (∀ l ∈ ls, Norm thr l) → mu ⟨s, more, false⟩ ≤ m → tailL (linesW thr ls) = outB more s → ∃ t, linesS thr m ⟨s, more, false⟩ = (ls, ⟨t, false, false⟩)
  | [], m, s, more, hN, hm, h => by
    have : more = false := by
      cases more with
      | false => rfl
      | true => cases h
    subst this
    exact ⟨s, linesS_end rfl⟩
  | l :: ls, m, s, more, hN, hm, h => by
    obtain ⟨hR, hz⟩ := hN l (by simp)
    obtain ⟨rf, ro, rn, ra⟩ := hR
    obtain ⟨lf, lo, ln, la⟩ := l
    dsimp only at rf ro rn ra
    have hT := tail_form (linesW thr ls)
    cases thr with
    | true =>
      have hz : ln = 0 := hz
      subst hz
      have h : 32 :: (txt lf ++ (32 :: (txt lo ++ (32 :: (txt la ++ tailL (linesW true ls)))))) = outB more s := h
      obtain ⟨rfl, hs⟩ := outB_eq h.symm
      obtain ⟨a1, a2, a3⟩ := numS_whole lf rf _ (.inr ⟨_, rfl⟩) s hs
      obtain ⟨p1, p2⟩ := outB_eq a2
      obtain ⟨b1, b2, b3⟩ := numS_whole lo ro _ (.inr ⟨_, rfl⟩) _ p2
      obtain ⟨p3, p4⟩ := outB_eq b2
      obtain ⟨c1, c2, c3⟩ := numS_whole la ra _ hT _ p4
      rw [p1] at a3
      rw [p3] at b3
      have hl : lineS true ⟨s, true, false⟩ = (⟨lf, lo, 0, la⟩, ⟨(cutL (cutL (cutL s).2.1).2.1).2.1, (cutL (cutL (cutL s).2.1).2.1).2.2, false⟩) := by
        unfold lineS
        rw [if_pos rfl, a3]
        dsimp only
        rw [b3]
        dsimp only
        rw [c3]
      have hlt := (lineS_rest true ⟨s, true, false⟩).2 rfl
      rw [hl] at hlt
      have hpos : 1 ≤ m := by
        have : mu ⟨s, true, false⟩ = s.length + 1 := rfl
        omega
      obtain ⟨m', rfl⟩ : ∃ m', m = m' + 1 := ⟨m - 1, by omega⟩
      obtain ⟨t, ht⟩ := lines_whole true ls m' (cutL (cutL (cutL s).2.1).2.1).2.1 (cutL (cutL (cutL s).2.1).2.1).2.2 (fun q hq => hN q (by simp [hq])) (by dsimp only at hlt; omega) c2.symm
      refine ⟨t, ?_⟩
      rw [linesS_go rfl, hl]
      dsimp only
      rw [ht]
    | false =>
      obtain ⟨rfl, rfl⟩ : lf = 0 ∧ lo = 0 := hz
      have h : 32 :: (txt ln ++ (32 :: (txt la ++ tailL (linesW false ls)))) = outB more s := h
      obtain ⟨rfl, hs⟩ := outB_eq h.symm
      obtain ⟨a1, a2, a3⟩ := numS_whole ln rn _ (.inr ⟨_, rfl⟩) s hs
      obtain ⟨p1, p2⟩ := outB_eq a2
      obtain ⟨c1, c2, c3⟩ := numS_whole la ra _ hT _ p2
      rw [p1] at a3
      have hl : lineS false ⟨s, true, false⟩ = (⟨0, 0, ln, la⟩, ⟨(cutL (cutL s).2.1).2.1, (cutL (cutL s).2.1).2.2, false⟩) := by
        unfold lineS
        rw [if_neg (by decide), a3]
        dsimp only
        rw [c3]
      have hlt := (lineS_rest false ⟨s, true, false⟩).2 rfl
      rw [hl] at hlt
      have hpos : 1 ≤ m := by
        have : mu ⟨s, true, false⟩ = s.length + 1 := rfl
        omega
      obtain ⟨m', rfl⟩ : ∃ m', m = m' + 1 := ⟨m - 1, by omega⟩
      obtain ⟨t, ht⟩ := lines_whole false ls m' (cutL (cutL s).2.1).2.1 (cutL (cutL s).2.1).2.2 (fun q hq => hN q (by simp [hq])) (by dsimp only at hlt; omega) c2.symm
      refine ⟨t, ?_⟩
      rw [linesS_go rfl, hl]
      dsimp only
      rw [ht]
end Go.Proofs.Ytbgijjoemnfnmaa.Al
/- The plain law: both parsers read the same. -/
namespace Go.Proofs.Ytbgijjoemnfnmaa.Al
open Go Go.Al Go.Proofs Go.RowKit
set_option maxRecDepth 100000
set_option linter.unusedVariables false
set_option linter.unusedSimpArgs false
/-- Fields that may be asked for one behind the other. -/
def wfB : List Nat → Bool
  | [] => true
  | f :: fs => (decide (f ≤ 9) && !fs.contains f && wfB fs) || (decide (10 ≤ f) && decide (f ≤ 12) && fs.isEmpty)
theorem asks_wf (k : Nat) : wfB (asksL k) = true := by
  by_cases hk : 1 ≤ k ∧ k ≤ 20
  · rcases asksN k hk with rfl | rfl | rfl | rfl | rfl | rfl | rfl | rfl | rfl | rfl | rfl | rfl | rfl | rfl | rfl | rfl | rfl | rfl | rfl | rfl <;> decide
  · have : asksL k = [] := by
      unfold asksL
      split <;> first | rfl | omega
    rw [this]
    rfl
theorem wf_cons {f : Nat} {fs : List Nat} (h : wfB (f :: fs) = true) : (f ≤ 9 ∧ f ∉ fs ∧ wfB fs = true) ∨ ((f = 10 ∨ f = 11 ∨ f = 12) ∧ fs = []) := by
  have h : ((decide (f ≤ 9) && !fs.contains f && wfB fs) || (decide (10 ≤ f) && decide (f ≤ 12) && fs.isEmpty)) = true := h
  rw [Bool.or_eq_true] at h
  rcases h with h | h
  · rw [Bool.and_eq_true, Bool.and_eq_true, decide_eq_true_iff] at h
    exact .inl ⟨h.1.1, by simpa using h.1.2, h.2⟩
  · rw [Bool.and_eq_true, Bool.and_eq_true, decide_eq_true_iff, decide_eq_true_iff] at h
    exact .inr ⟨by omega, by simpa using h.2⟩
theorem fieldS_num {f : Nat} (h : f ≤ 8) (c : CD) (r : RD) : fieldS f c r = (setF c f (numS r).1, (numS r).2) := by
  unfold fieldS
  rw [if_neg (by omega), if_neg (by omega), if_neg (by omega), if_neg (by omega)]
theorem fieldW_num {f : Nat} (h : f ≤ 8) (c : CD) : fieldW c f = [txt (numF c f)] := by
  unfold fieldW
  rw [if_neg (by omega), if_neg (by omega), if_neg (by omega), if_neg (by omega)]
theorem numF_set (c : CD) (f g : Nat) (hf : f ≤ 8) (hg : g ≤ 8) (n : Int) : numF (setF c f n) g = if f = g then n else numF c g := by
  rcases fieldN f hf with rfl | rfl | rfl | rfl | rfl | rfl | rfl | rfl | rfl <;> rcases fieldN g hg with rfl | rfl | rfl | rfl | rfl | rfl | rfl | rfl | rfl <;> rfl
/-- What a field has been told stays. -/
theorem keep_fieldS (g f : Nat) (hg : g ≤ 9) (hfg : f ≠ g) (c : CD) (r : RD) (h12 : f ≤ 12) : fieldW (fieldS f c r).1 g = fieldW c g := by
  have key : ∀ c' : CD, c'.ab = c.ab → (∀ g ≤ 8, g ≠ f → numF c' g = numF c g) → fieldW c' g = fieldW c g := by
    intro c' h1 h2
    by_cases h9 : g = 9
    · subst h9
      show [if c'.ab = true then yesL else noL] = [if c.ab = true then yesL else noL]
      rw [h1]
    · rw [fieldW_num (by omega), fieldW_num (by omega), h2 g (by omega) (Ne.symm hfg)]
  by_cases hf8 : f ≤ 8
  · rw [fieldS_num hf8]
    exact key _ (setF_parts c f _).2.2.2 fun g hg hne => by rw [numF_set c f g hf8 hg, if_neg (Ne.symm hne)]
  · obtain rfl | rfl | rfl | rfl : f = 9 ∨ f = 10 ∨ f = 11 ∨ f = 12 := by omega
    · have h8 : g ≤ 8 := by omega
      rw [fieldW_num h8, fieldW_num h8]
      rfl
    · exact key _ rfl fun _ _ _ => rfl
    · exact key _ rfl fun _ _ _ => rfl
    · exact key _ rfl fun _ _ _ => rfl
theorem keep_foldS (g : Nat) (hg : g ≤ 9) : ∀ (fs : List Nat) (c : CD) (r : RD), g ∉ fs → (∀ f ∈ fs, f ≤ 12) → fieldW (foldS fs (c, r)).1 g = fieldW c g
  | [], c, r, _, _ => rfl
  | f :: fs, c, r, hn, h12 => by
    show fieldW (foldS fs (fieldS f c r)).1 g = _
    have h := keep_foldS g hg fs (fieldS f c r).1 (fieldS f c r).2 (fun h => hn (by simp [h])) (fun f hf => h12 f (by simp [hf]))
    rw [show (((fieldS f c r).1, (fieldS f c r).2) : CD × RD) = fieldS f c r from rfl] at h
    rw [h]
    exact keep_fieldS g f hg (fun e => hn (by simp [e])) c r (h12 f (by simp))
theorem keep_rfields (g : Nat) (hg : g ≤ 9) : ∀ (fs : List Nat) (c : CD) (s : List UInt8) (more : Bool), g ∉ fs → (∀ f ∈ fs, f ≤ 12) → fieldW (rfieldsS fs c s more) g = fieldW c g
  | [], c, s, more, _, _ => rfl
  | f :: fs, c, s, more, hn, h12 => by
    have key : ∀ c' : CD, c'.ab = c.ab → (∀ g ≤ 8, g ≠ f → numF c' g = numF c g) → fieldW c' g = fieldW c g := by
      intro c' h1 h2
      by_cases h9 : g = 9
      · subst h9
        show [if c'.ab = true then yesL else noL] = [if c.ab = true then yesL else noL]
        rw [h1]
      · rw [fieldW_num (by omega), fieldW_num (by omega), h2 g (by omega) (fun e => hn (by simp [e]))]
    have ih := fun c s more => keep_rfields g hg fs c s more (fun h => hn (by simp [h])) (fun f hf => h12 f (by simp [hf]))
    unfold rfieldsS
    split
    · rfl
    split
    · exact key _ rfl fun _ _ _ => rfl
    split
    · exact key _ rfl fun _ _ _ => rfl
    split
    · exact key _ rfl fun _ _ _ => rfl
    split
    · next h9 =>
      rw [ih]
      have h8 : g ≤ 8 := by
        have : g ≠ 9 := fun e => hn (by rw [e, h9]; simp)
        omega
      rw [fieldW_num h8, fieldW_num h8]
      rfl
    · rw [ih]
      have hf := h12 f (by simp)
      have hf8 : f ≤ 8 := by omega
      exact key _ (setF_parts c f _).2.2.2 fun g hg hne => by rw [numF_set c f g hf8 hg, if_neg (Ne.symm hne)]
theorem fieldS_bad (f : Nat) (c : CD) (r : RD) (h : r.bad = true) : (fieldS f c r).2.bad = true := by
  have hw : (wordS r).2.bad = true := by
    unfold wordS
    split
    · exact h
    · rfl
  unfold fieldS
  split
  · show (r.bad || !r.more) = true
    rw [h]
    rfl
  split
  · show ((wordS r).2.bad || _) = true
    rw [hw]
    rfl
  split
  · rw [linesS_end (by rw [h]; simp)]
    exact h
  split
  · rw [linesS_end (by rw [h]; simp)]
    exact h
  · exact numS_bad r h
theorem foldS_bad : ∀ (fs : List Nat) (q : CD × RD), q.2.bad = true → (foldS fs q).2.bad = true
  | [], q, h => h
  | f :: fs, q, h => foldS_bad fs _ (fieldS_bad f q.1 q.2 h)
theorem rfields_more {f : Nat} (h : f ≤ 8) (fs : List Nat) (c : CD) (s : List UInt8) : rfieldsS (f :: fs) c s true = rfieldsS fs (setF c f (rnumV (cutL s).1)) (cutL s).2.1 (cutL s).2.2 := by
  show (if true = false then c else if f = 10 then _ else if f = 11 then _ else if f = 12 then _ else if f = 9 then _ else rfieldsS fs (setF c f (rnumV (cutL s).1)) (cutL s).2.1 (cutL s).2.2) = _
  rw [if_neg (by decide), if_neg (by omega), if_neg (by omega), if_neg (by omega), if_neg (by omega)]
/-- What the reader takes, the reference reads, and it prints as it was. -/
theorem sound : ∀ (fs : List Nat) (c : CD) (r : RD), wfB fs = true → (∀ f ∈ fs, f ≤ 12) → c.ls = [] → (foldS fs (c, r)).2.bad = false → (foldS fs (c, r)).2.more = false → rfieldsS fs c r.rest r.more = (foldS fs (c, r)).1 ∧ tailL (fieldsW (foldS fs (c, r)).1 fs) = outB r.more r.rest
  | [], c, r, _, _, _, hb, hm => ⟨rfl, by
      have hm : r.more = false := hm
      rw [hm]
      rfl⟩
  | f :: fs, c, r, hw, h12, hls, hb, hm => by
    have hst : foldS (f :: fs) (c, r) = foldS fs (fieldS f c r) := rfl
    rw [hst] at hb hm ⊢
    have hb1 : (fieldS f c r).2.bad = false := by
      cases e : (fieldS f c r).2.bad with
      | false => rfl
      | true => rw [foldS_bad fs _ e] at hb; cases hb
    rcases wf_cons hw with ⟨h9, hnf, hwf⟩ | ⟨h10, rfl⟩
    · have hkeep := keep_foldS f h9 fs (fieldS f c r).1 (fieldS f c r).2 hnf (fun g hg => h12 g (by simp [hg]))
      rw [show (((fieldS f c r).1, (fieldS f c r).2) : CD × RD) = fieldS f c r from rfl] at hkeep
      have hls1 : (fieldS f c r).1.ls = [] := by
        by_cases h8 : f ≤ 8
        · rw [fieldS_num h8]
          exact (setF_parts c f _).2.1.trans hls
        · obtain rfl : f = 9 := by omega
          exact hls
      obtain ⟨ih1, ih2⟩ := sound fs (fieldS f c r).1 (fieldS f c r).2 hwf (fun g hg => h12 g (by simp [hg])) hls1 hb hm
      rw [show (((fieldS f c r).1, (fieldS f c r).2) : CD × RD) = fieldS f c r from rfl] at ih1 ih2
      have hcons : tailL (fieldsW (foldS fs (fieldS f c r)).1 (f :: fs)) = tailL (fieldW (foldS fs (fieldS f c r)).1 f) ++ tailL (fieldsW (foldS fs (fieldS f c r)).1 fs) := by
        show tailL (fieldW _ f ++ fieldsW _ fs) = _
        rw [tailL_app]
      rw [hcons, hkeep, ih2]
      by_cases h8 : f ≤ 8
      · have hfs := fieldS_num h8 c r
        rw [hfs] at hb1 ih1 ⊢
        obtain ⟨s1, s2, s3, s4, s5, s6⟩ := numS_sound r hb1
        refine ⟨?_, ?_⟩
        · rw [← ih1, s2, rfields_more h8, s4, s5, rnumV_txt _ s6]
        · rw [fieldW_num h8, numF_set c f f h8 h8, if_pos rfl]
          show 32 :: (txt (numS r).1 ++ []) ++ outB (numS r).2.more (numS r).2.rest = _
          rw [List.append_nil, s2]
          show 32 :: (txt (numS r).1 ++ outB (numS r).2.more (numS r).2.rest) = 32 :: r.rest
          rw [← s3]
      · obtain rfl : f = 9 := by omega
        obtain ⟨rest, more, bad⟩ := r
        cases more with
        | false => 
          have hx : (fieldS 9 c ⟨rest, false, bad⟩).2.bad = true := rfl
          rw [hx] at hb1; cases hb1
        | true =>
          have hfs : fieldS 9 c ⟨rest, true, bad⟩ = ({ c with ab := (cutL rest).1 == yesL }, ⟨(cutL rest).2.1, (cutL rest).2.2, bad || (!((cutL rest).1 == yesL) && !((cutL rest).1 == noL))⟩) := rfl
          have hco := cut_out rest
          rw [hfs] at hb1 ih1 ⊢
          refine ⟨by rw [← ih1]; rfl, ?_⟩
          have hw : (if ((cutL rest).1 == yesL) = true then yesL else noL) = (cutL rest).1 := by
            rw [Bool.or_eq_false_iff] at hb1
            by_cases hy : (cutL rest).1 = yesL
            · rw [if_pos (by rw [hy]; decide), hy]
            · rw [if_neg (by simpa using hy)]
              have := hb1.2
              simp [hy] at this
              exact this.symm
          show 32 :: ((if ((cutL rest).1 == yesL) = true then yesL else noL) ++ []) ++ outB (cutL rest).2.2 (cutL rest).2.1 = 32 :: rest
          rw [hw, List.append_nil]
          exact congrArg (32 :: ·) hco.symm
    · have hone : ∀ (c' : CD), tailL (fieldsW c' [f]) = tailL (fieldW c' f) := fun c' => by
        show tailL (fieldW c' f ++ []) = _
        rw [List.append_nil]
      have hf0 : foldS [] (fieldS f c r) = fieldS f c r := rfl
      rw [hf0] at hb hm ⊢
      rw [hone]
      obtain ⟨rest, more, bad⟩ := r
      rcases h10 with rfl | rfl | rfl
      · have hfs : fieldS 10 c ⟨rest, more, bad⟩ = ({ c with nm := rest }, ⟨[], false, bad || !more⟩) := rfl
        rw [hfs] at hb ⊢
        cases more with
        | false => rw [show (bad || !false) = true by simp] at hb; cases hb
        | true =>
          refine ⟨rfl, ?_⟩
          show 32 :: (rest ++ []) = 32 :: rest
          rw [List.append_nil]
      · have hfs : fieldS 11 c ⟨rest, more, bad⟩ = ({ c with ls := (linesS true (mu ⟨rest, more, bad⟩) ⟨rest, more, bad⟩).1 }, (linesS true (mu ⟨rest, more, bad⟩) ⟨rest, more, bad⟩).2) := rfl
        rw [hfs] at hb hm ⊢
        obtain ⟨l1, l2, l3⟩ := lines_sound true _ _ (Nat.le_refl _) hb hm
        refine ⟨?_, l3⟩
        cases more with
        | false =>
          show c = { c with ls := [] }
          rw [← hls]
        | true =>
          show { c with ls := chunk3 (splitL rest) } = _
          rw [show chunk3 (splitL rest) = _ from l2 rfl]
      · have hfs : fieldS 12 c ⟨rest, more, bad⟩ = ({ c with ls := (linesS false (mu ⟨rest, more, bad⟩) ⟨rest, more, bad⟩).1 }, (linesS false (mu ⟨rest, more, bad⟩) ⟨rest, more, bad⟩).2) := rfl
        rw [hfs] at hb hm ⊢
        obtain ⟨l1, l2, l3⟩ := lines_sound false _ _ (Nat.le_refl _) hb hm
        refine ⟨?_, l3⟩
        cases more with
        | false =>
          show c = { c with ls := [] }
          rw [← hls]
        | true =>
          show { c with ls := chunk2 (splitL rest) } = _
          rw [show chunk2 (splitL rest) = _ from l2 rfl]
end Go.Proofs.Ytbgijjoemnfnmaa.Al
/- The plain law: both parsers read the same (the other way). -/
namespace Go.Proofs.Ytbgijjoemnfnmaa.Al
open Go Go.Al Go.Proofs Go.RowKit
set_option maxRecDepth 100000
set_option linter.unusedVariables false
set_option linter.unusedSimpArgs false
theorem chunk3_norm : ∀ ws : List (List UInt8), ∀ q ∈ chunk3 ws, Norm true q
  | a :: b :: c :: ws, q, h => by
    rcases List.mem_cons.1 h with rfl | h
    · exact ⟨⟨rnumV_range a, rnumV_range b, r64_0, rnumV_range c⟩, rfl⟩
    · exact chunk3_norm ws q h
  | [], q, h => by cases h
  | [_], q, h => by cases h
  | [_, _], q, h => by cases h
theorem chunk2_norm : ∀ ws : List (List UInt8), ∀ q ∈ chunk2 ws, Norm false q
  | a :: b :: ws, q, h => by
    rcases List.mem_cons.1 h with rfl | h
    · exact ⟨⟨r64_0, r64_0, rnumV_range a, rnumV_range b⟩, rfl, rfl⟩
    · exact chunk2_norm ws q h
  | [], q, h => by cases h
  | [_], q, h => by cases h
theorem yes_blank : (∀ x ∈ yesL, x ≠ 32) ∧ (∀ x ∈ noL, x ≠ 32) := by decide
/-- What prints as it was, the reader takes. -/
theorem whole : ∀ (fs : List Nat) (c : CD) (s : List UInt8) (more : Bool), wfB fs = true → (∀ f ∈ fs, f ≤ 12) → c.ls = [] → CdR c → tailL (fieldsW (rfieldsS fs c s more) fs) = outB more s → ∃ t, foldS fs (c, ⟨s, more, false⟩) = (rfieldsS fs c s more, ⟨t, false, false⟩)
  | [], c, s, more, _, _, _, _, h => by
    cases more with
    | false => exact ⟨s, rfl⟩
    | true => cases h
  | f :: fs, c, s, more, hw, h12, hls, hR, h => by
    have hst : foldS (f :: fs) (c, ⟨s, more, false⟩) = foldS fs (fieldS f c ⟨s, more, false⟩) := rfl
    have hcons : ∀ c' : CD, tailL (fieldsW c' (f :: fs)) = tailL (fieldW c' f) ++ tailL (fieldsW c' fs) := fun c' => by
      show tailL (fieldW c' f ++ fieldsW c' fs) = _
      rw [tailL_app]
    rw [hcons] at h
    rw [hst]
    rcases wf_cons hw with ⟨h9, hnf, hwf⟩ | ⟨h10, rfl⟩
    · by_cases h8 : f ≤ 8
      · cases more with
        | false =>
          rw [fieldW_num h8] at h
          cases h
        | true =>
          rw [rfields_more h8] at h ⊢
          have hkr := keep_rfields f h9 fs (setF c f (rnumV (cutL s).1)) (cutL s).2.1 (cutL s).2.2 hnf (fun g hg => h12 g (by simp [hg]))
          rw [hkr, fieldW_num h8, numF_set c f f h8 h8, if_pos rfl] at h
          have h' : 32 :: (txt (rnumV (cutL s).1) ++ []) ++ tailL (fieldsW (rfieldsS fs (setF c f (rnumV (cutL s).1)) (cutL s).2.1 (cutL s).2.2) fs) = 32 :: s := h
          rw [List.append_nil] at h'
          have hs := (List.cons.inj h').2.symm
          have hnr := rnumV_range (cutL s).1
          obtain ⟨a1, a2, a3⟩ := numS_whole (rnumV (cutL s).1) hnr _ (tail_form _) s hs
          have hfs := fieldS_num h8 c ⟨s, true, false⟩
          rw [hfs, a3]
          exact whole fs _ _ _ hwf (fun g hg => h12 g (by simp [hg])) ((setF_parts c f _).2.1.trans hls) (cdR_set hR f hnr) a2.symm
      · obtain rfl : f = 9 := by omega
        cases more with
        | false => cases h
        | true =>
          have hr9 : rfieldsS (9 :: fs) c s true = rfieldsS fs { c with ab := (cutL s).1 == yesL } (cutL s).2.1 (cutL s).2.2 := rfl
          rw [hr9] at h ⊢
          have hkr := keep_rfields 9 h9 fs { c with ab := (cutL s).1 == yesL } (cutL s).2.1 (cutL s).2.2 hnf (fun g hg => h12 g (by simp [hg]))
          rw [hkr] at h
          have h' : 32 :: ((if ((cutL s).1 == yesL) = true then yesL else noL) ++ []) ++ tailL (fieldsW (rfieldsS fs { c with ab := (cutL s).1 == yesL } (cutL s).2.1 (cutL s).2.2) fs) = 32 :: s := h
          rw [List.append_nil] at h'
          have hs : s = (if ((cutL s).1 == yesL) = true then yesL else noL) ++ tailL (fieldsW (rfieldsS fs { c with ab := (cutL s).1 == yesL } (cutL s).2.1 (cutL s).2.2) fs) := (List.cons.inj h').2.symm
          obtain ⟨a1, a2⟩ := cut_word (if ((cutL s).1 == yesL) = true then yesL else noL) (tailL (fieldsW (rfieldsS fs { c with ab := (cutL s).1 == yesL } (cutL s).2.1 (cutL s).2.2) fs)) (by split; exact yes_blank.1; exact yes_blank.2) (tail_form _)
          rw [← hs] at a1 a2
          have hok : (!((cutL s).1 == yesL) && !((cutL s).1 == noL)) = false := by
            by_cases hy : (cutL s).1 = yesL
            · rw [hy]
              rfl
            · rw [if_neg (by simpa using hy)] at a1
              rw [a1]
              rfl
          have hfs : fieldS 9 c ⟨s, true, false⟩ = ({ c with ab := (cutL s).1 == yesL }, ⟨(cutL s).2.1, (cutL s).2.2, false || (!((cutL s).1 == yesL) && !((cutL s).1 == noL))⟩) := rfl
          rw [hfs, hok]
          exact whole fs { c with ab := (cutL s).1 == yesL } (cutL s).2.1 (cutL s).2.2 hwf (fun g hg => h12 g (by simp [hg])) hls ⟨hR.y, hR.x, hR.f, hR.o, hR.n, hR.p, hR.d, hR.l, hR.a, hR.ls⟩ a2.symm
    · have hf0 : foldS [] (fieldS f c ⟨s, more, false⟩) = fieldS f c ⟨s, more, false⟩ := rfl
      have hnil : ∀ c' : CD, tailL (fieldsW c' []) = [] := fun _ => rfl
      rw [hf0]
      rw [hnil, List.append_nil] at h
      rcases h10 with rfl | rfl | rfl
      · cases more with
        | false => cases h
        | true => exact ⟨[], rfl⟩
      · have hfs : fieldS 11 c ⟨s, more, false⟩ = ({ c with ls := (linesS true (mu ⟨s, more, false⟩) ⟨s, more, false⟩).1 }, (linesS true (mu ⟨s, more, false⟩) ⟨s, more, false⟩).2) := rfl
        rw [hfs]
        cases more with
        | false =>
          refine ⟨s, ?_⟩
          show (({ c with ls := [] }, (⟨s, false, false⟩ : RD)) : CD × RD) = (c, ⟨s, false, false⟩)
          rw [← hls]
        | true =>
          have hr : rfieldsS [11] c s true = { c with ls := chunk3 (splitL s) } := rfl
          rw [hr] at h ⊢
          obtain ⟨t, ht⟩ := lines_whole true (chunk3 (splitL s)) _ s true (chunk3_norm _) (Nat.le_refl _) h
          exact ⟨t, by rw [ht]⟩
      · have hfs : fieldS 12 c ⟨s, more, false⟩ = ({ c with ls := (linesS false (mu ⟨s, more, false⟩) ⟨s, more, false⟩).1 }, (linesS false (mu ⟨s, more, false⟩) ⟨s, more, false⟩).2) := rfl
        rw [hfs]
        cases more with
        | false =>
          refine ⟨s, ?_⟩
          show (({ c with ls := [] }, (⟨s, false, false⟩ : RD)) : CD × RD) = (c, ⟨s, false, false⟩)
          rw [← hls]
        | true =>
          have hr : rfieldsS [12] c s true = { c with ls := chunk2 (splitL s) } := rfl
          rw [hr] at h ⊢
          obtain ⟨t, ht⟩ := lines_whole false (chunk2 (splitL s)) _ s true (chunk2_norm _) (Nat.le_refl _) h
          exact ⟨t, by rw [ht]⟩
theorem rfields_k : ∀ (fs : List Nat) (c : CD) (s : List UInt8) (more : Bool), (rfieldsS fs c s more).k = c.k
  | [], c, s, more => rfl
  | f :: fs, c, s, more => by
    unfold rfieldsS
    split
    · rfl
    split
    · rfl
    split
    · rfl
    split
    · rfl
    split
    · rw [rfields_k fs]
    · rw [rfields_k fs]
      exact (setF_parts c f _).2.2.1
theorem printP_k (c : CD) (k : Nat) (h : c.k = (k : Int)) : printP c = wordK k ++ tailL (fieldsW c (asksL k)) := by
  unfold printP wordsP
  rw [h]
  rfl
theorem wordK_of (w : List UInt8) (h : kindS w ≠ 0) : wordK (kindS w) = w := by
  unfold wordK
  rw [kindS_at w h]
  rfl
/-- Both read the same. -/
theorem parse_eq (s : List UInt8) : parseS s = rparseS s := by
  unfold parseS rparseS
  by_cases h4 : 4096 < s.length
  · rw [if_pos h4, if_pos h4]
  rw [if_neg h4, if_neg h4]
  have hw : wordS ⟨s, true, false⟩ = ((cutL s).1, ⟨(cutL s).2.1, (cutL s).2.2, false⟩) := rfl
  rw [hw]
  dsimp only
  by_cases h0 : kindS (cutL s).1 = 0
  · rw [if_pos h0, if_pos h0]
  rw [if_neg h0, if_neg h0]
  have hs := cut_out s
  have hwk := wordK_of (cutL s).1 h0
  have hrc : rparseC s = rfieldsS (asksL (kindS (cutL s).1)) (kindC (kindS (cutL s).1)) (cutL s).2.1 (cutL s).2.2 := rfl
  have hk : (rparseC s).k = (kindS (cutL s).1 : Int) := by rw [hrc, rfields_k]; rfl
  have hpr := printP_k (rparseC s) _ hk
  have hso := sound (asksL (kindS (cutL s).1)) (kindC (kindS (cutL s).1)) ⟨(cutL s).2.1, (cutL s).2.2, false⟩ (asks_wf _) (asksL_le _) rfl
  have hwh := whole (asksL (kindS (cutL s).1)) (kindC (kindS (cutL s).1)) (cutL s).2.1 (cutL s).2.2 (asks_wf _) (asksL_le _) rfl (cdR_kind _ (kindS_eq _).2)
  rw [← hrc] at hwh
  dsimp only at hso
  rw [← hrc] at hso
  rw [hwk] at hpr
  generalize hq : foldS (asksL (kindS (cutL s).1)) (kindC (kindS (cutL s).1), ⟨(cutL s).2.1, (cutL s).2.2, false⟩) = q at hso hwh ⊢
  obtain ⟨c, r⟩ := q
  dsimp only at hso hwh ⊢
  cases hb : (r.bad || (r.more || !mayB c)) with
  | false =>
    rw [Bool.or_eq_false_iff, Bool.or_eq_false_iff] at hb
    obtain ⟨b1, b2, b3⟩ := hb
    obtain ⟨s1, s2⟩ := hso b1 b2
    have hm : mayB c = true := by simpa using b3
    rw [if_neg (by decide), s1, if_pos]
    rw [hm, Bool.true_and, beq_iff_eq, ← s1, hpr, s1, s2]
    exact hs.symm
  | true =>
    rw [if_pos rfl]
    cases hg : (mayB (rparseC s) && (printP (rparseC s) == s)) with
    | false => rw [if_neg (by decide)]
    | true =>
      rw [Bool.and_eq_true, beq_iff_eq] at hg
      obtain ⟨g1, g2⟩ := hg
      rw [hpr] at g2
      have g3 : tailL (fieldsW (rparseC s) (asksL (kindS (cutL s).1))) = outB (cutL s).2.2 (cutL s).2.1 := by
        have : (cutL s).1 ++ tailL (fieldsW (rparseC s) (asksL (kindS (cutL s).1))) = (cutL s).1 ++ outB (cutL s).2.2 (cutL s).2.1 := g2.trans hs
        exact List.append_cancel_left this
      obtain ⟨t, ht⟩ := hwh g3
      obtain ⟨rfl, rfl⟩ := Prod.mk.inj ht
      rw [g1] at hb
      cases hb
/-- What is read, prints as it was. -/
theorem parse_back (s : List UInt8) (d : CD) (h : parseS s = (d, 0)) : mayB d = true ∧ printP d = s ∧ CdR d ∧ d.nm.length ≤ 4096 ∧ d.ls.length ≤ 4097 := by
  rw [parse_eq] at h
  unfold rparseS at h
  split at h
  · cases h
  split at h
  · cases h
  split at h
  · next h4 _ hg =>
    obtain ⟨rfl, _⟩ := Prod.mk.inj h
    rw [Bool.and_eq_true, beq_iff_eq] at hg
    obtain ⟨g1, g2, g3⟩ := rparseC_good s (by omega)
    exact ⟨hg.1, hg.2, g1, g2, g3⟩
  · cases h
theorem parse_no (s : List UInt8) (d : CD) (e : Int) (h : parseS s = (d, e)) (he : e ≠ 0) : d = zeroC := by
  rw [parse_eq] at h
  unfold rparseS at h
  split at h
  · exact (Prod.mk.inj h).1.symm
  split at h
  · exact (Prod.mk.inj h).1.symm
  split at h
  · exact absurd (Prod.mk.inj h).2.symm he
  · exact (Prod.mk.inj h).1.symm
end Go.Proofs.Ytbgijjoemnfnmaa.Al
/- The contract of exchequerplain.Cmds, commands as arguments, and (for the seat of Text). -/
namespace Go.Proofs.Ytbgijjoemnfnmaa.Al
open Go Go.Al Go.Proofs Go.RowKit
set_option maxHeartbeats 8000000
set_option maxRecDepth 100000
set_option linter.unusedVariables false
set_option linter.unusedSimpArgs false
structure CR where
  c : CD
  B : Option Addr
  cc : Nat
def cmdA (r : CR) : Array Value := cmdC r.c.k r.c.y r.c.x r.c.f r.c.o r.c.n r.c.p r.c.d r.c.l r.c.a r.c.ab ⟨r.c.nm.toArray⟩ (.slice r.B r.c.ls.length r.cc)
def rowsV (rs : List CR) : List Value := rs.flatMap fun r => (cmdA r).toList
def few (r : CR) : Bool := decide (r.c.nm.length ≤ 100) && decide (r.c.ls.length ≤ 20)
theorem rowsV_len (rs : List CR) : (rowsV rs).length = rs.length * 13 := by
  induction rs with
  | nil => rfl
  | cons r rs ih =>
    unfold rowsV at ih ⊢
    rw [List.flatMap_cons, List.length_append, ih, List.length_cons]
    show 13 + _ = _
    omega
theorem rowsV_at : ∀ (rs : List CR) (j : Nat) (x : CR), rs[j]? = some x → ((rowsV rs).drop (j * 13)).take 13 = (cmdA x).toList := by
  intro rs
  induction rs with
  | nil => intro j x h; simp at h
  | cons r rs ih =>
    intro j x h
    unfold rowsV at ih ⊢
    rw [List.flatMap_cons]
    cases j with
    | zero =>
      obtain rfl : r = x := by simpa using h
      rfl
    | succ j =>
      rw [show (j + 1) * 13 = 13 + j * 13 by omega, ← List.drop_drop, List.drop_left' (by rfl)]
      exact ih j x (by simpa using h)
theorem few1 (r : CR) (F : Heap) : FnK Try.prog 26 #[.agg (cmdA r)] F (fun v F' => v = .bool (!few r) ∧ Ext F F') := by
  obtain ⟨⟨k, y, x, f, o, n, p, d, l, a, ab, nm, ls⟩, B, cc⟩ := r
  have hf : few ⟨⟨k, y, x, f, o, n, p, d, l, a, ab, nm, ls⟩, B, cc⟩ = (decide (nm.length ≤ 100) && decide (ls.length ≤ 20)) := rfl
  generalize few ⟨⟨k, y, x, f, o, n, p, d, l, a, ab, nm, ls⟩, B, cc⟩ = q at hf
  (refine fn_walk tab_ok Try.func26 rfl rfl rfl rfl ?_; (conv => whnf))
  refine new_step (cmdO k y x f o n p d l a ab ⟨nm.toArray⟩ (.slice B ls.length cc)) rfl fun b hb => ?_
  have hE := Ext.new hb (cmdO k y x f o n p d l a ab ⟨nm.toArray⟩ (.slice B ls.length cc))
  have hB := Heap.put_same F b (cmdO k y x f o n p d l a ab ⟨nm.toArray⟩ (.slice B ls.length cc))
  generalize F.put b _ = F1 at hE hB ⊢
  (conv => whnf)
  refine load_blk hB rfl rfl ?_
  (conv => whnf)
  refine cond_split (fun h => ?_) (fun h => ?_)
  · have h : (!decide (((nm.length : Nat) : Int) > 100)) = true := h
    have h1 : nm.length ≤ 100 := by simp at h; omega
    (conv => whnf)
    refine load_blk hB rfl rfl ?_
    (conv => whnf)
    refine ⟨congrArg Value.bool ?_, hE⟩
    show decide (((ls.length : Nat) : Int) > 20) = !q
    rw [hf, decide_eq_true h1, Bool.true_and, Bool.eq_iff_iff]
    simp
    omega
  · have h : (!decide (((nm.length : Nat) : Int) > 100)) = false := h
    have h1 : ¬ nm.length ≤ 100 := by simp at h; omega
    (conv => whnf)
    refine ⟨congrArg Value.bool ?_, hE⟩
    rw [hf, decide_eq_false h1]
    rfl
theorem indexC (rs : List CR) (A : Option Addr) (c : Nat) (F : Heap) (hr : RowAt F A (rowsV rs)) (hl : rs.length ≤ 1000) :
    FnK Try.prog 44 #[.slice A rs.length c, .func (.func 26) #[] #[]] F (fun v F' => (∃ r : Int, v = .int .i64 r ∧ decide (r ≥ 0) = !rs.all few) ∧ Ext F F') := by
  (refine fn_walk tab_ok Try.func44 rfl rfl rfl rfl ?_; (conv => whnf))
  refine loop_slots [0, 1, 7, 8] (fun k vs F' => ∃ j : Nat, j + k = rs.length ∧ vs = [.slice A rs.length c, .func (.func 26) #[] #[], .int .i64 (rs.length : Int), .int .i64 (j : Int)] ∧ (rs.take j).all few = true ∧ Ext F F') rs.length ⟨0, by omega, rfl, rfl, Ext.refl F⟩ ?_
  rintro k vs F2 ρ ⟨j, hjk, rfl, hall, hE2⟩
  (conv => whnf)
  refine cond_split (fun h => ?_) (fun h => ?_)
  · have hj : j < rs.length := by have := of_decide_eq_true h; omega
    obtain ⟨ad, rfl⟩ := hr.some (by rw [rowsV_len]; omega)
    have hx : rs[j]? = some rs[j] := List.getElem?_eq_getElem hj
    have hf := few1 rs[j]
    have hz : (rs.take (j + 1)).all few = few rs[j] := by
      rw [List.take_add_one, hx, List.all_append, hall]
      simp
    have hz2 : few rs[j] = false → rs.all few = false := fun e => by
      rw [← Bool.not_eq_true, List.all_eq_true]
      intro h
      rw [h _ (List.getElem_mem hj)] at e
      cases e
    have hL : ∀ K : Value → Prop, K (.agg (cmdA rs[j])) → LoadsK F2 (ad.add (Int.toNat (j : Int) * 13)) 13 K := fun K hk => by
      rw [Int.toNat_natCast]
      refine loads_row (hr.mono hE2) (by decide) (by rw [rowsV_len]; omega) ?_
      rw [rowsV_at rs j _ hx]
      exact hk
    generalize few rs[j] = z at hf hz hz2
    generalize rs[j] = r at hf hL
    (conv => whnf)
    refine ⟨⟨by omega, by omega⟩, ?_⟩
    (conv => whnf)
    refine hL _ ?_
    (conv => whnf)
    refine call_of (hf F2) ?_
    rintro v F3 ⟨rfl, hE3⟩
    replace hE3 := hE2.trans hE3
    cases z with
    | false =>
      have := hz2 rfl
      (conv => whnf)
      refine ⟨⟨(j : Int), rfl, ?_⟩, hE3⟩
      rw [this]
      simp
    | true =>
      (conv => whnf)
      refine ⟨k - 1, by omega, j + 1, by omega, ?_, hz, hE3⟩
      have hw : IntKind.i64.wrap ((j : Int) + 1) = ((j + 1 : Nat) : Int) := by rw [IntKind.wrap_i64]; omega
      rw [← hw]
      rfl
  · have hj : j = rs.length := by have := of_decide_eq_false h; omega
    subst hj
    rw [List.take_length] at hall
    (conv => whnf)
    exact ⟨⟨-1, rfl, by rw [hall]; rfl⟩, hE2⟩
theorem cmds (rs : List CR) (A : Option Addr) (c many : Nat) (F : Heap) (hr : RowAt F A (rowsV rs)) (hl : rs.length ≤ many) (hm : many ≤ 1000) :
    FnK Try.prog 13 #[.slice A rs.length c, .int .i64 (many : Int)] F (fun v F' => v = .bool (rs.all few) ∧ Ext F F') := by
  have hi := indexC rs A c F hr (by omega)
  have hc : FnK Try.prog 25 #[.slice A rs.length c, .func (.func 26) #[] #[]] F (fun v F' => v = .bool (!rs.all few) ∧ Ext F F') := by
    (refine fn_walk tab_ok Try.func25 rfl rfl rfl rfl ?_; (conv => whnf))
    refine call_of hi ?_
    rintro v F1 ⟨⟨r, rfl, hr'⟩, hE⟩
    (conv => whnf)
    exact ⟨congrArg Value.bool hr', hE⟩
  generalize rs.all few = z at hc
  (refine fn_walk tab_ok Try.func13 rfl rfl rfl rfl ?_; (conv => whnf))
  refine cond_split (fun h => ?_) (fun h => ?_)
  · (conv => whnf)
    refine call_of hc ?_
    rintro v F1 ⟨rfl, hE⟩
    (conv => whnf)
    exact ⟨congrArg Value.bool (Bool.not_not z), hE⟩
  · have h : decide ((rs.length : Int) ≤ (many : Int)) = false := h
    have := of_decide_eq_false h
    omega
/-- A command as an argument. -/
theorem cmd_open {F : Heap} {x : Int × Int × Int × Int × Int × Int × Int × Int × Int × Int × Bool × ByteArray × List (Int × Int × Int × Int)} {cs : Array Value}
    (h : (kPair 1 (kInt .i64) (kPair 1 (kInt .i64) (kPair 1 (kInt .i64) (kPair 1 (kInt .i64) (kPair 1 (kInt .i64) (kPair 1 (kInt .i64) (kPair 1 (kInt .i64) (kPair 1 (kInt .i64) (kPair 1 (kInt .i64) (kPair 1 (kInt .i64) (kPair 1 kBool (kPair 1 kStr (kSlice 4 (kPair 1 (kInt .i64) (kPair 1 (kInt .i64) (kPair 1 (kInt .i64) (kInt .i64))))))))))))))))) F x cs.toList) :
    ∃ (r : CR), cs = cmdA r ∧ RowAt F r.B (linesV r.c.ls) ∧ r.c = ⟨x.1, x.2.1, x.2.2.1, x.2.2.2.1, x.2.2.2.2.1, x.2.2.2.2.2.1, x.2.2.2.2.2.2.1, x.2.2.2.2.2.2.2.1, x.2.2.2.2.2.2.2.2.1, x.2.2.2.2.2.2.2.2.2.1, x.2.2.2.2.2.2.2.2.2.2.1, x.2.2.2.2.2.2.2.2.2.2.2.1.data.toList, x.2.2.2.2.2.2.2.2.2.2.2.2.map (fun q => ⟨q.1, q.2.1, q.2.2.1, q.2.2.2⟩)⟩ := by
  obtain ⟨c1, d1, e1, _, rfl, c2, d2, rfl, _, rfl, c3, d3, rfl, _, rfl, c4, d4, rfl, _, rfl, c5, d5, rfl, _, rfl, c6, d6, rfl, _, rfl, c7, d7, rfl, _, rfl, c8, d8, rfl, _, rfl, c9, d9, rfl, _, rfl, c10, d10, rfl, _, rfl, c11, d11, rfl, _, rfl, c12, d12, rfl, _, rfl, A, c, rfl, _, hel⟩ := h
  obtain ⟨k, y, xx, f, o, n, p, d, l, a, ab, nm, ls⟩ := x
  refine ⟨⟨⟨k, y, xx, f, o, n, p, d, l, a, ab, nm.data.toList, ls.map (fun q => ⟨q.1, q.2.1, q.2.2.1, q.2.2.2⟩)⟩, A, c⟩, ?_, ?_, rfl⟩
  · apply Array.ext'
    rw [e1]
    simp [cmdA, cmdC]
  · intro j v hj
    have hlt : j < (linesV (ls.map (fun q => (⟨q.1, q.2.1, q.2.2.1, q.2.2.2⟩ : LD)))).length := (List.getElem?_eq_some_iff.1 hj).1
    rw [linesV_len, List.length_map] at hlt
    have hq : j / 4 < ls.length := by omega
    obtain ⟨a', c', h1, h2, h3, h4⟩ := hel (j / 4) _ (List.getElem?_eq_getElem hq)
    have hx : (ls.map (fun q => (⟨q.1, q.2.1, q.2.2.1, q.2.2.2⟩ : LD)))[j / 4]? = some ⟨ls[j / 4].1, ls[j / 4].2.1, ls[j / 4].2.2.1, ls[j / 4].2.2.2⟩ := by
      rw [List.getElem?_map, List.getElem?_eq_getElem hq]; rfl
    have hat := linesV_at _ _ _ hx
    obtain ⟨u1, v1, rfl, _, rfl, u2, v2, rfl, _, rfl, u3, v3, rfl, _, rfl, rfl⟩ := h3
    refine ⟨a', h1, ?_⟩
    have hj2 : (lineV ⟨ls[j / 4].1, ls[j / 4].2.1, ls[j / 4].2.2.1, ls[j / 4].2.2.2⟩)[j % 4]? = some v := by
      rw [← hat, List.getElem?_take, if_pos (by omega), List.getElem?_drop, show j / 4 * 4 + j % 4 = j by omega]
      exact hj
    have := h4 (j % 4) v hj2
    rwa [show j / 4 * 4 + j % 4 = j by omega] at this
theorem wf64 {a : Int} (w : (Lit.int .i64 a).wf = true) : R64 a := by
  simp [Lit.wf, IntKind.min, IntKind.max, IntKind.signed, IntKind.bits] at w
  unfold R64
  omega
/-- Its numbers are 64 bits wide. -/
theorem cmd_R {x : Int × Int × Int × Int × Int × Int × Int × Int × Int × Int × Bool × ByteArray × List (Int × Int × Int × Int)}
    (w : (Lit.int .i64 x.1).wf = true ∧ (Lit.int .i64 x.2.1).wf = true ∧ (Lit.int .i64 x.2.2.1).wf = true ∧ (Lit.int .i64 x.2.2.2.1).wf = true ∧ (Lit.int .i64 x.2.2.2.2.1).wf = true ∧ (Lit.int .i64 x.2.2.2.2.2.1).wf = true ∧ (Lit.int .i64 x.2.2.2.2.2.2.1).wf = true ∧ (Lit.int .i64 x.2.2.2.2.2.2.2.1).wf = true ∧ (Lit.int .i64 x.2.2.2.2.2.2.2.2.1).wf = true ∧ (Lit.int .i64 x.2.2.2.2.2.2.2.2.2.1).wf = true ∧ True ∧ x.2.2.2.2.2.2.2.2.2.2.2.1.size ≤ maxLen ∧ x.2.2.2.2.2.2.2.2.2.2.2.2.length ≤ maxLen ∧ ∀ q ∈ x.2.2.2.2.2.2.2.2.2.2.2.2, (Lit.int .i64 q.1).wf = true ∧ (Lit.int .i64 q.2.1).wf = true ∧ (Lit.int .i64 q.2.2.1).wf = true ∧ (Lit.int .i64 q.2.2.2).wf = true) :
    CdR ⟨x.1, x.2.1, x.2.2.1, x.2.2.2.1, x.2.2.2.2.1, x.2.2.2.2.2.1, x.2.2.2.2.2.2.1, x.2.2.2.2.2.2.2.1, x.2.2.2.2.2.2.2.2.1, x.2.2.2.2.2.2.2.2.2.1, x.2.2.2.2.2.2.2.2.2.2.1, x.2.2.2.2.2.2.2.2.2.2.2.1.data.toList, x.2.2.2.2.2.2.2.2.2.2.2.2.map (fun q => ⟨q.1, q.2.1, q.2.2.1, q.2.2.2⟩)⟩ := by
  obtain ⟨_, h1, h2, h3, h4, h5, h6, h7, h8, h9, _, _, _, h10⟩ := w
  refine ⟨wf64 h1, wf64 h2, wf64 h3, wf64 h4, wf64 h5, wf64 h6, wf64 h7, wf64 h8, wf64 h9, fun q hq => ?_⟩
  obtain ⟨u, hu, rfl⟩ := List.mem_map.1 hq
  obtain ⟨k1, k2, k3, k4⟩ := h10 u hu
  exact ⟨wf64 k1, wf64 k2, wf64 k3, wf64 k4⟩
end Go.Proofs.Ytbgijjoemnfnmaa.Al
/- The laws' awake; slices.Equal of texts. -/
namespace Go.Proofs.Ytbgijjoemnfnmaa.Al
open Go Go.Al Go.Proofs Go.RowKit
set_option maxHeartbeats 8000000
set_option maxRecDepth 100000
set_option linter.unusedVariables false
set_option linter.unusedSimpArgs false
theorem eqStr (ws : List (List UInt8)) (A B : Option Addr) (c e : Nat) (F : Heap) (hr : RowAt F A (txV ws)) (hs : RowAt F B (txV ws)) (hl : ws.length ≤ 1000) :
    FnK Try.prog 10 #[.slice A ws.length c, .slice B ws.length e] F (fun v F' => v = .bool true ∧ F' = F) := by
  (refine fn_walk tab_ok Try.func10 rfl rfl rfl rfl ?_; (conv => whnf))
  refine cond_split (fun h => ?_) (fun _ => ?_)
  · have h : (!decide ((ws.length : Int) = (ws.length : Int))) = true := h
    rw [decide_eq_true rfl] at h
    cases h
  ((conv => whnf); repeat (first | (apply load_at; (conv => lhs; whnf); (with_reducible assumption); rfl; (conv => whnf)) | (apply load_at; (conv => lhs; rw [add_plain, add_plain]); (with_reducible assumption); rfl; (conv => whnf)) | (apply loads_at; (conv => lhs; whnf); (with_reducible assumption); rfl; (conv => whnf)) | (refine ⟨⟨by omega, by omega⟩, ?_⟩; (conv => whnf))))
  refine loop_slots [0, 1, 12, 13] (fun m vs F' => ∃ j : Nat, j + m = ws.length ∧ vs = [.slice A ws.length c, .slice B ws.length e, .int .i64 (ws.length : Int), .int .i64 (j : Int)] ∧ F' = F) ws.length ⟨0, by omega, rfl, rfl⟩ ?_
  rintro m vs F2 ρ ⟨j, hjm, rfl, rfl⟩
  ((conv => whnf); repeat (first | (apply load_at; (conv => lhs; whnf); (with_reducible assumption); rfl; (conv => whnf)) | (apply load_at; (conv => lhs; rw [add_plain, add_plain]); (with_reducible assumption); rfl; (conv => whnf)) | (apply loads_at; (conv => lhs; whnf); (with_reducible assumption); rfl; (conv => whnf)) | (refine ⟨⟨by omega, by omega⟩, ?_⟩; (conv => whnf))))
  refine cond_split (fun h => ?_) (fun h => ?_)
  · have hj : j < ws.length := by have := of_decide_eq_true h; omega
    obtain ⟨ad, rfl⟩ := hr.some (by rw [txV_len]; omega)
    obtain ⟨bd, rfl⟩ := hs.some (by rw [txV_len]; omega)
    have hws : IntKind.i64.wrap ((j : Int) + 1) = ((j + 1 : Nat) : Int) := wrap_succ (by omega)
    have hc := tx_cell hr (List.getElem?_eq_getElem hj)
    have hd := tx_cell hs (List.getElem?_eq_getElem hj)
    generalize ws[j] = u at hc hd
    have hq := str_beq u u
    ((conv => whnf); repeat (first | (apply load_at; (conv => lhs; whnf); (with_reducible assumption); rfl; (conv => whnf)) | (apply load_at; (conv => lhs; rw [add_plain, add_plain]); (with_reducible assumption); rfl; (conv => whnf)) | (apply loads_at; (conv => lhs; whnf); (with_reducible assumption); rfl; (conv => whnf)) | (refine ⟨⟨by omega, by omega⟩, ?_⟩; (conv => whnf))))
    refine draw_walk tab_ok (by kernel_rfl) [0, 1, 2, 3, 4, 5, 6, 7, 8] (by kernel_rfl) ?_
    ((conv => whnf); repeat (first | (apply load_at; (conv => lhs; whnf); (with_reducible assumption); rfl; (conv => whnf)) | (apply load_at; (conv => lhs; rw [add_plain, add_plain]); (with_reducible assumption); rfl; (conv => whnf)) | (apply loads_at; (conv => lhs; whnf); (with_reducible assumption); rfl; (conv => whnf)) | (refine ⟨⟨by omega, by omega⟩, ?_⟩; (conv => whnf))))
    refine load_step hc ?_
    ((conv => whnf); repeat (first | (apply load_at; (conv => lhs; whnf); (with_reducible assumption); rfl; (conv => whnf)) | (apply load_at; (conv => lhs; rw [add_plain, add_plain]); (with_reducible assumption); rfl; (conv => whnf)) | (apply loads_at; (conv => lhs; whnf); (with_reducible assumption); rfl; (conv => whnf)) | (refine ⟨⟨by omega, by omega⟩, ?_⟩; (conv => whnf))))
    refine load_step hd ?_
    ((conv => whnf); repeat (first | (apply load_at; (conv => lhs; whnf); (with_reducible assumption); rfl; (conv => whnf)) | (apply load_at; (conv => lhs; rw [add_plain, add_plain]); (with_reducible assumption); rfl; (conv => whnf)) | (apply loads_at; (conv => lhs; whnf); (with_reducible assumption); rfl; (conv => whnf)) | (refine ⟨⟨by omega, by omega⟩, ?_⟩; (conv => whnf))))
    refine cond_split (fun h => ?_) (fun _ => ?_)
    · have h : (!((⟨u.toArray⟩ : ByteArray).toList == (⟨u.toArray⟩ : ByteArray).toList)) = true := h
      rw [hq] at h
      simp at h
    ((conv => whnf); repeat (first | (apply load_at; (conv => lhs; whnf); (with_reducible assumption); rfl; (conv => whnf)) | (apply load_at; (conv => lhs; rw [add_plain, add_plain]); (with_reducible assumption); rfl; (conv => whnf)) | (apply loads_at; (conv => lhs; whnf); (with_reducible assumption); rfl; (conv => whnf)) | (refine ⟨⟨by omega, by omega⟩, ?_⟩; (conv => whnf))))
    refine ⟨m - 1, by omega, j + 1, by omega, ?_, rfl⟩
    rw [← hws]
    rfl
  · ((conv => whnf); repeat (first | (apply load_at; (conv => lhs; whnf); (with_reducible assumption); rfl; (conv => whnf)) | (apply load_at; (conv => lhs; rw [add_plain, add_plain]); (with_reducible assumption); rfl; (conv => whnf)) | (apply loads_at; (conv => lhs; whnf); (with_reducible assumption); rfl; (conv => whnf)) | (refine ⟨⟨by omega, by omega⟩, ?_⟩; (conv => whnf))))
    exact ⟨rfl, rfl⟩
def postL : List UInt8 := [112, 111, 115, 116, 32, 50, 48, 50, 48, 32, 49, 48, 48, 32, 53, 48, 49, 48, 32, 53, 32, 49, 48, 48, 32, 49, 48, 49, 48, 32, 45, 53]
def yearL : List UInt8 := [121, 101, 97, 114, 32, 48, 50, 48, 50, 48]
def abL : List UInt8 := [97, 32, 98]
def fundL : List UInt8 := [102, 117, 110, 100, 32, 49, 48, 48, 32, 97, 32, 98]
def postC : CD := ⟨7, 2020, 0, 0, 0, 0, 0, 0, 0, 0, false, [], [⟨100, 5010, 0, 5⟩, ⟨100, 1010, 0, -5⟩]⟩
def fundC : CD := ⟨1, 0, 0, 100, 0, 0, 0, 0, 0, 0, false, abL, []⟩
theorem post_eq : parseS postL = (postC, 0) := by
  rw [parse_eq]
  kernel_rfl
theorem year_eq : parseS yearL = (zeroC, 14) := by
  rw [parse_eq]
  kernel_rfl
theorem fund_eq : mayB fundC = true ∧ printP fundC = fundL ∧ parseS fundL = (fundC, 0) := by
  refine ⟨by kernel_rfl, by kernel_rfl, ?_⟩
  rw [parse_eq]
  kernel_rfl
theorem fund_R : CdR fundC := by
  have h : R64 100 := ⟨by decide, by decide⟩
  exact ⟨r64_0, r64_0, h, r64_0, r64_0, r64_0, r64_0, r64_0, r64_0, fun q hq => by cases hq⟩
theorem awake (F : Heap) : FnK Try.prog 6 #[] F (fun v F' => v = .bool true ∧ Ext F F') := by
  have h1 := fun F => parse postL F
  have h2 := fun F => parse yearL F
  have h3 := fun A c F h => printT fundC fund_R A c F h (by decide) (by decide)
  rw [post_eq] at h1
  rw [year_eq] at h2
  have h4 : ∀ out, PrintRel parseS fundC out → out = (fundL, 0) := fun out h => by
    obtain ⟨e1, e2, e3⟩ := fund_eq
    have := h.1 ⟨e1, by rw [e2]; exact e3⟩
    rw [e2] at this
    exact this
  replace h1 : ∀ F, FnK Try.prog 7 #[str postL] F (fun v F' => (∃ A cc, v = .tuple #[.agg (cmdC 7 2020 0 0 0 0 0 0 0 0 false ⟨#[]⟩ (.slice A 2 cc)), .int .i64 0] ∧ RowAt F' A (linesV postC.ls)) ∧ Ext F F') := h1
  replace h2 : ∀ F, FnK Try.prog 7 #[str yearL] F (fun v F' => (∃ A cc, v = .tuple #[.agg (cmdC 0 0 0 0 0 0 0 0 0 0 false ⟨#[]⟩ (.slice A 0 cc)), .int .i64 14] ∧ RowAt F' A (linesV [])) ∧ Ext F F') := h2
  replace h3 : ∀ F, FnK Try.prog 14 #[.agg (cmdC 1 0 0 100 0 0 0 0 0 0 false ⟨abL.toArray⟩ (.slice none 0 0))] F (fun v F' => v = .tuple #[str fundL, .int .i64 0] ∧ Ext F F') := fun F => (h3 none 0 F (RowAt.nil _ _)).mono fun v F' h => by
    obtain ⟨⟨out, rfl, ho⟩, hE⟩ := h
    rw [h4 out ho]
    exact ⟨rfl, hE⟩
  have hq := str_beq fundL fundL
  clear h4
  (refine fn_walk tab_ok Try.func6 rfl rfl rfl rfl ?_; (conv => whnf))
  refine call_of (h1 F) ?_
  rintro v F1 ⟨⟨A, cc, rfl, hr⟩, hE1⟩
  ((conv => whnf); repeat (first | (apply load_at; (conv => lhs; whnf); (with_reducible assumption); rfl; (conv => whnf)) | (apply load_at; (conv => lhs; rw [add_plain, add_plain]); (with_reducible assumption); rfl; (conv => whnf)) | (apply loads_at; (conv => lhs; whnf); (with_reducible assumption); rfl; (conv => whnf)) | (refine ⟨⟨by omega, by omega⟩, ?_⟩; (conv => whnf))))
  refine new_step (cmdO 0 0 0 0 0 0 0 0 0 0 false ⟨#[]⟩ (.slice none 0 0)) rfl fun p h0_p => ?_
  have hE_p := Ext.new h0_p (cmdO 0 0 0 0 0 0 0 0 0 0 false ⟨#[]⟩ (.slice none 0 0))
  have hB_p := Heap.put_same F1 p (cmdO 0 0 0 0 0 0 0 0 0 0 false ⟨#[]⟩ (.slice none 0 0))
  generalize F1.put p _ = F2 at hE_p hB_p ⊢
  ((conv => whnf); repeat (first | (apply load_at; (conv => lhs; whnf); (with_reducible assumption); rfl; (conv => whnf)) | (apply load_at; (conv => lhs; rw [add_plain, add_plain]); (with_reducible assumption); rfl; (conv => whnf)) | (apply loads_at; (conv => lhs; whnf); (with_reducible assumption); rfl; (conv => whnf)) | (refine ⟨⟨by omega, by omega⟩, ?_⟩; (conv => whnf))))
  refine store_step p 0 _ (cmdC 7 2020 0 0 0 0 0 0 0 0 false ⟨#[]⟩ (.slice A 2 cc)) rfl hB_p rfl rfl (.inl (Nat.le_refl 0)) (cmd_ones _ _ _ _ _ _ _ _ _ _ _ _ _ _ _) ?_
  have hp3 := Heap.put_same F2 p (cmdO 7 2020 0 0 0 0 0 0 0 0 false ⟨#[]⟩ (.slice A 2 cc))
  have hE3 : Ext F1 (F2.put p (cmdO 7 2020 0 0 0 0 0 0 0 0 false ⟨#[]⟩ (.slice A 2 cc))) := hE_p.put h0_p _
  generalize F2.put p _ = F3 at hp3 hE3 ⊢
  have hr3 := hr.mono hE3
  ((conv => whnf); repeat (first | (apply load_at; (conv => lhs; whnf); (with_reducible assumption); rfl; (conv => whnf)) | (apply load_at; (conv => lhs; rw [add_plain, add_plain]); (with_reducible assumption); rfl; (conv => whnf)) | (apply loads_at; (conv => lhs; whnf); (with_reducible assumption); rfl; (conv => whnf)) | (refine ⟨⟨by omega, by omega⟩, ?_⟩; (conv => whnf))))
  refine call_of (h3 F3) ?_
  rintro v F4 ⟨rfl, hE4⟩
  ((conv => whnf); repeat (first | (apply load_at; (conv => lhs; whnf); (with_reducible assumption); rfl; (conv => whnf)) | (apply load_at; (conv => lhs; rw [add_plain, add_plain]); (with_reducible assumption); rfl; (conv => whnf)) | (apply loads_at; (conv => lhs; whnf); (with_reducible assumption); rfl; (conv => whnf)) | (refine ⟨⟨by omega, by omega⟩, ?_⟩; (conv => whnf))))
  refine call_of (h2 F4) ?_
  rintro v F5 ⟨⟨A5, c5, rfl, _⟩, hE5⟩
  ((conv => whnf); repeat (first | (apply load_at; (conv => lhs; whnf); (with_reducible assumption); rfl; (conv => whnf)) | (apply load_at; (conv => lhs; rw [add_plain, add_plain]); (with_reducible assumption); rfl; (conv => whnf)) | (apply loads_at; (conv => lhs; whnf); (with_reducible assumption); rfl; (conv => whnf)) | (refine ⟨⟨by omega, by omega⟩, ?_⟩; (conv => whnf))))
  refine new_step (cmdO 0 0 0 0 0 0 0 0 0 0 false ⟨#[]⟩ (.slice none 0 0)) rfl fun z h0_z => ?_
  have hE_z := Ext.new h0_z (cmdO 0 0 0 0 0 0 0 0 0 0 false ⟨#[]⟩ (.slice none 0 0))
  have hB_z := Heap.put_same F5 z (cmdO 0 0 0 0 0 0 0 0 0 0 false ⟨#[]⟩ (.slice none 0 0))
  generalize F5.put z _ = F6 at hE_z hB_z ⊢
  ((conv => whnf); repeat (first | (apply load_at; (conv => lhs; whnf); (with_reducible assumption); rfl; (conv => whnf)) | (apply load_at; (conv => lhs; rw [add_plain, add_plain]); (with_reducible assumption); rfl; (conv => whnf)) | (apply loads_at; (conv => lhs; whnf); (with_reducible assumption); rfl; (conv => whnf)) | (refine ⟨⟨by omega, by omega⟩, ?_⟩; (conv => whnf))))
  refine store_step z 0 _ (cmdC 0 0 0 0 0 0 0 0 0 0 false ⟨#[]⟩ (.slice A5 0 c5)) rfl hB_z rfl rfl (.inl (Nat.le_refl 0)) (cmd_ones _ _ _ _ _ _ _ _ _ _ _ _ _ _ _) ?_
  have hE7 : Ext F5 (F6.put z (cmdO 0 0 0 0 0 0 0 0 0 0 false ⟨#[]⟩ (.slice A5 0 c5))) := hE_z.put h0_z _
  generalize F6.put z _ = F7 at hE7 ⊢
  have hX := (hE4.trans hE5).trans hE7
  have hp7 := hX _ _ hp3
  have hr7 := hr3.mono hX
  have hE := (hE1.trans hE3).trans hX
  obtain ⟨ad, rfl⟩ := hr7.some (by decide)
  have hc := hr7.cell (j := 7) (v := .int .i64 (-5)) rfl
  refine short [1, 2, 3, 4, 19] [.pointer (some ⟨p, 0, none⟩), .int .i64 0, str fundL, .int .i64 0, .int .i64 14] rfl fun ρ => ?_
  ((conv => whnf); repeat (first | (apply load_at; (conv => lhs; whnf); (with_reducible assumption); rfl; (conv => whnf)) | (apply load_at; (conv => lhs; rw [add_plain, add_plain]); (with_reducible assumption); rfl; (conv => whnf)) | (apply loads_at; (conv => lhs; whnf); (with_reducible assumption); rfl; (conv => whnf)) | (refine ⟨⟨by omega, by omega⟩, ?_⟩; (conv => whnf))))
  refine load_step (v := .int .i64 (-5)) ?_ ?_
  · show F7.cell? ((ad.add 4).add 3) = _
    rw [add_add]
    exact hc
  ((conv => whnf); repeat (first | (apply load_at; (conv => lhs; whnf); (with_reducible assumption); rfl; (conv => whnf)) | (apply load_at; (conv => lhs; rw [add_plain, add_plain]); (with_reducible assumption); rfl; (conv => whnf)) | (apply loads_at; (conv => lhs; whnf); (with_reducible assumption); rfl; (conv => whnf)) | (refine ⟨⟨by omega, by omega⟩, ?_⟩; (conv => whnf))))
  refine cond_split (fun _ => ?_) (fun h => ?_)
  · ((conv => whnf); repeat (first | (apply load_at; (conv => lhs; whnf); (with_reducible assumption); rfl; (conv => whnf)) | (apply load_at; (conv => lhs; rw [add_plain, add_plain]); (with_reducible assumption); rfl; (conv => whnf)) | (apply loads_at; (conv => lhs; whnf); (with_reducible assumption); rfl; (conv => whnf)) | (refine ⟨⟨by omega, by omega⟩, ?_⟩; (conv => whnf))))
    exact ⟨rfl, hE⟩
  · have h : ((⟨fundL.toArray⟩ : ByteArray).toList == (⟨fundL.toArray⟩ : ByteArray).toList) = false := h
    rw [hq] at h
    simp at h
end Go.Proofs.Ytbgijjoemnfnmaa.Al
/- Words for the laws about texts: what printing tells, a row of one command. -/
namespace Go.Proofs.Ytbgijjoemnfnmaa.Al
open Go Go.Al Go.Proofs Go.RowKit
set_option linter.unusedVariables false
set_option linter.unusedSimpArgs false
theorem fill1t (Z a : List Value) (hz : Z.length = 13) (ha : a.length = 13) : putL (zerosL Z 1) (0 * 13) a = a ++ [] := by
  have h2 : (zerosL Z 1).length = 13 := by show (Z ++ []).length = 13; simp [hz]
  rw [putL_eq a _ _ (by rw [h2, ha]; decide)]
  rw [Nat.zero_mul, Nat.zero_add, List.take_zero, List.nil_append, ha, List.drop_of_length_le (by rw [h2]; decide)]
/-- What printing tells, one way or the other. -/
theorem rel_cases {P : List UInt8 → CD × Int} {cd : CD} {out : List UInt8 × Int} (h : PrintRel P cd out) : (out = (printP cd, 0) ∧ mayB cd = true ∧ P (printP cd) = (cd, 0)) ∨ (out = ([], 1) ∧ ¬ (mayB cd = true ∧ P (printP cd) = (cd, 0))) := by
  by_cases hc : mayB cd = true ∧ P (printP cd) = (cd, 0)
  · exact .inl ⟨h.1 hc, hc⟩
  · exact .inr ⟨h.2 hc, hc⟩
theorem rel_same {cd : CD} {out out' : List UInt8 × Int} (h : PrintRel parseS cd out) (h' : PrintRel rparseS cd out') : out = out' := by
  have e : rparseS = parseS := funext fun s => (parse_eq s).symm
  rw [e] at h'
  rcases rel_cases h with ⟨rfl, hc⟩ | ⟨rfl, hc⟩
  · exact (h'.1 hc).symm
  · exact (h'.2 hc).symm
theorem few_le {r : CR} (h : few r = true) : r.c.nm.length ≤ 100 ∧ r.c.ls.length ≤ 20 := by
  unfold few at h
  rw [Bool.and_eq_true, decide_eq_true_eq, decide_eq_true_eq] at h
  exact h
end Go.Proofs.Ytbgijjoemnfnmaa.Al

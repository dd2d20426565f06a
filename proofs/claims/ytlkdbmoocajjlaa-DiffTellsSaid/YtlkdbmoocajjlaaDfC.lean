/- The reference's tables: what they are in memory; exchequerref12.Get and Delete. -/
import Derived.Test.YtlkdbmoocajjlaaDfB
namespace Go.Proofs.Ytlkdbmoocajjlaa.Al
open Go Go.Al Go.Proofs Go.RowKit
set_option maxHeartbeats 8000000
set_option maxRecDepth 100000
set_option linter.unusedVariables false
set_option linter.unusedSimpArgs false
abbrev tabO (S : Value) : Obj := .cells #[S] 79
structure Tab (F G : Heap) (t : Nat) (rs : List PR) : Prop where
  cell : ∃ A c, F t = some (tabO (.slice A rs.length c)) ∧ rs.length ≤ c ∧ RowAt G A (prsV rs)
  base : Ext G F
  gt : G t = none
  ok : ∀ r ∈ rs, PrG G r
theorem Tab.mono {F F' G : Heap} {t : Nat} {rs : List PR} (h : Tab F G t rs) (hE : Ext F F') : Tab F' G t rs := by
  obtain ⟨A, c, h1, h2, h3⟩ := h.cell
  exact ⟨⟨A, c, hE _ _ h1, h2, h3⟩, h.base.trans hE, h.gt, h.ok⟩
def getL : List PD → List UInt8 → Option (List UInt8)
  | [], _ => none
  | p :: l, k => if p.1 = k then some p.2 else getL l k
theorem getL_cons (p : PD) (l : List PD) (k : List UInt8) : getL (p :: l) k = if p.1 = k then some p.2 else getL l k := rfl
theorem get (rs : List PR) (t : Nat) (k : List UInt8) (KA : Option Addr) (kc : Nat) (F G : Heap) (hT : Tab F G t rs) (hl : rs.length ≤ 100000) (hk : RowAt F KA (bytesOf k)) :
    FnK Try.prog 50 #[.pointer (some ⟨t, 0, none⟩), .slice KA k.length kc] F (fun v F' => ((∃ u w, getL (rs.map pd) k = some w ∧ v = .tuple #[u, .bool true] ∧ NewRow F F' u w) ∨ (getL (rs.map pd) k = none ∧ v = .tuple #[.slice none 0 0, .bool false])) ∧ Ext F F') := by
  obtain ⟨⟨A, c, hB, hlc, hrow⟩, hbase, hgt, hok⟩ := hT
  have hrF := hrow.mono hbase
  obtain ⟨res, hres⟩ : ∃ res, res = getL (rs.map pd) k := ⟨_, rfl⟩
  rw [← hres]
  (refine fn_walk tab_ok Try.func50 rfl rfl rfl rfl ?_; (conv => whnf))
  ((conv => whnf); repeat (first | (apply load_at; (conv => lhs; whnf); (with_reducible assumption); rfl; (conv => whnf)) | (apply load_at; (conv => lhs; rw [add_plain, add_plain]); (with_reducible assumption); rfl; (conv => whnf)) | (apply loads_at; (conv => lhs; whnf); (with_reducible assumption); rfl; (conv => whnf)) | (refine ⟨⟨by omega, by omega⟩, ?_⟩; (conv => whnf))))
  refine loop_slots [0, 1, 6] (fun m vs F' => ∃ j : Nat, j + m = rs.length ∧ vs = [.pointer (some ⟨t, 0, none⟩), .slice KA k.length kc, .int .i64 (j : Int)] ∧ res = getL ((rs.map pd).drop j) k ∧ F' = F) rs.length ⟨0, by omega, rfl, hres, rfl⟩ ?_
  rintro m vs F2 ρ ⟨j, hm, rfl, hri, rfl⟩
  ((conv => whnf); repeat (first | (apply load_at; (conv => lhs; whnf); (with_reducible assumption); rfl; (conv => whnf)) | (apply load_at; (conv => lhs; rw [add_plain, add_plain]); (with_reducible assumption); rfl; (conv => whnf)) | (apply loads_at; (conv => lhs; whnf); (with_reducible assumption); rfl; (conv => whnf)) | (refine ⟨⟨by omega, by omega⟩, ?_⟩; (conv => whnf))))
  refine cond_split (fun h => ?_) (fun h => ?_)
  · have hj : j < rs.length := by have := of_decide_eq_true h; omega
    obtain ⟨ad, rfl⟩ := hrF.some (by rw [prsV_len]; omega)
    have hws : IntKind.i64.wrap ((j : Int) + 1) = ((j + 1 : Nat) : Int) := wrap_succ (by omega)
    have hdr : (rs.map pd).drop j = pd rs[j] :: (rs.map pd).drop (j + 1) := by rw [List.drop_eq_getElem_cons (by rw [List.length_map]; omega), List.getElem_map]
    rw [hdr, getL_cons] at hri
    have hG := (hok _ (List.getElem_mem hj)).mono hbase
    have hC := fun i (v : Value) (hi : (prA rs[j]).toList[i]? = some v) => pr_cell hrF hj hi
    generalize rs[j] = r at hri hG hC
    obtain ⟨rk, ra, rc, rv, rb, rcc⟩ := r
    obtain ⟨⟨g1, g2, g3, g4⟩, g5, g6⟩ := hG
    replace hri : res = if rk = k then some rv else getL ((rs.map pd).drop (j + 1)) k := hri
    have c0 := hC 0 _ rfl
    have c1 := hC 1 _ rfl
    have hq := str_beq rk k
    obtain ⟨z, hz⟩ : ∃ z, z = (rk == k) := ⟨_, rfl⟩
    rw [← hz] at hq
    ((conv => whnf); repeat (first | (apply load_at; (conv => lhs; whnf); (with_reducible assumption); rfl; (conv => whnf)) | (apply load_at; (conv => lhs; rw [add_plain, add_plain]); (with_reducible assumption); rfl; (conv => whnf)) | (apply loads_at; (conv => lhs; whnf); (with_reducible assumption); rfl; (conv => whnf)) | (refine ⟨⟨by omega, by omega⟩, ?_⟩; (conv => whnf))))
    refine draw_cut (fun env' F' => [0, 1, 6, 27].map env' = [.pointer (some ⟨t, 0, none⟩), .slice KA k.length kc, .int .i64 (j : Int), .bool z] ∧ F' = F2) (fun K hK => ?_) ?_
    · refine draw_tree_at tab_ok (by kernel_rfl) [] (DT.row [0, 1, 2, 3, 4, 5, 6, 7, 9] (.fork (DT.row [8, 10, 11] .nil) (DT.row [10, 8, 11] .nil))) (by kernel_rfl) (fun _ => none) (fun _ _ h => by cases h) ?_
      ((conv => whnf); repeat (first | (apply load_at; (conv => lhs; whnf); (with_reducible assumption); rfl; (conv => whnf)) | (apply load_at; (conv => lhs; rw [add_plain, add_plain]); (with_reducible assumption); rfl; (conv => whnf)) | (apply loads_at; (conv => lhs; whnf); (with_reducible assumption); rfl; (conv => whnf)) | (refine ⟨⟨by omega, by omega⟩, ?_⟩; (conv => whnf))))
      refine load_step c0 ?_
      ((conv => whnf); repeat (first | (apply load_at; (conv => lhs; whnf); (with_reducible assumption); rfl; (conv => whnf)) | (apply load_at; (conv => lhs; rw [add_plain, add_plain]); (with_reducible assumption); rfl; (conv => whnf)) | (apply loads_at; (conv => lhs; whnf); (with_reducible assumption); rfl; (conv => whnf)) | (refine ⟨⟨by omega, by omega⟩, ?_⟩; (conv => whnf))))
      refine ⟨?_, ?_⟩
      · ((conv => whnf); repeat (first | (apply load_at; (conv => lhs; whnf); (with_reducible assumption); rfl; (conv => whnf)) | (apply load_at; (conv => lhs; rw [add_plain, add_plain]); (with_reducible assumption); rfl; (conv => whnf)) | (apply loads_at; (conv => lhs; whnf); (with_reducible assumption); rfl; (conv => whnf)) | (refine ⟨⟨by omega, by omega⟩, ?_⟩; (conv => whnf))))
        refine conv_str tab_ok rk rfl rfl rfl rfl rfl g1 ?_
        (conv => whnf)
        refine ⟨(fun _ _ h => by cases h), ?_⟩
        ((conv => whnf); repeat (first | (apply load_at; (conv => lhs; whnf); (with_reducible assumption); rfl; (conv => whnf)) | (apply load_at; (conv => lhs; rw [add_plain, add_plain]); (with_reducible assumption); rfl; (conv => whnf)) | (apply loads_at; (conv => lhs; whnf); (with_reducible assumption); rfl; (conv => whnf)) | (refine ⟨⟨by omega, by omega⟩, ?_⟩; (conv => whnf))))
        refine conv_str tab_ok k rfl rfl rfl rfl rfl hk ?_
        (conv => whnf)
        refine ⟨(fun _ _ h => by cases h), Ext.refl _, ?_⟩
        ((conv => whnf); repeat (first | (apply load_at; (conv => lhs; whnf); (with_reducible assumption); rfl; (conv => whnf)) | (apply load_at; (conv => lhs; rw [add_plain, add_plain]); (with_reducible assumption); rfl; (conv => whnf)) | (apply loads_at; (conv => lhs; whnf); (with_reducible assumption); rfl; (conv => whnf)) | (refine ⟨⟨by omega, by omega⟩, ?_⟩; (conv => whnf))))
        refine hK _ _ ⟨?_, rfl⟩
        rw [← hq]
        rfl
      · ((conv => whnf); repeat (first | (apply load_at; (conv => lhs; whnf); (with_reducible assumption); rfl; (conv => whnf)) | (apply load_at; (conv => lhs; rw [add_plain, add_plain]); (with_reducible assumption); rfl; (conv => whnf)) | (apply loads_at; (conv => lhs; whnf); (with_reducible assumption); rfl; (conv => whnf)) | (refine ⟨⟨by omega, by omega⟩, ?_⟩; (conv => whnf))))
        refine conv_str tab_ok k rfl rfl rfl rfl rfl hk ?_
        (conv => whnf)
        refine ⟨(fun _ _ h => by cases h), Ext.refl _, ?_⟩
        ((conv => whnf); repeat (first | (apply load_at; (conv => lhs; whnf); (with_reducible assumption); rfl; (conv => whnf)) | (apply load_at; (conv => lhs; rw [add_plain, add_plain]); (with_reducible assumption); rfl; (conv => whnf)) | (apply loads_at; (conv => lhs; whnf); (with_reducible assumption); rfl; (conv => whnf)) | (refine ⟨⟨by omega, by omega⟩, ?_⟩; (conv => whnf))))
        refine conv_str tab_ok rk rfl rfl rfl rfl rfl g1 ?_
        (conv => whnf)
        refine ⟨(fun _ _ h => by cases h), ?_⟩
        ((conv => whnf); repeat (first | (apply load_at; (conv => lhs; whnf); (with_reducible assumption); rfl; (conv => whnf)) | (apply load_at; (conv => lhs; rw [add_plain, add_plain]); (with_reducible assumption); rfl; (conv => whnf)) | (apply loads_at; (conv => lhs; whnf); (with_reducible assumption); rfl; (conv => whnf)) | (refine ⟨⟨by omega, by omega⟩, ?_⟩; (conv => whnf))))
        refine hK _ _ ⟨?_, rfl⟩
        rw [← hq]
        rfl
    · rintro env' F3 ⟨he, rfl⟩
      refine short [0, 1, 6, 27] [.pointer (some ⟨t, 0, none⟩), .slice KA k.length kc, .int .i64 (j : Int), .bool z] he fun ρ => ?_
      ((conv => whnf); repeat (first | (apply load_at; (conv => lhs; whnf); (with_reducible assumption); rfl; (conv => whnf)) | (apply load_at; (conv => lhs; rw [add_plain, add_plain]); (with_reducible assumption); rfl; (conv => whnf)) | (apply loads_at; (conv => lhs; whnf); (with_reducible assumption); rfl; (conv => whnf)) | (refine ⟨⟨by omega, by omega⟩, ?_⟩; (conv => whnf))))
      refine cond_split (fun h => ?_) (fun h => ?_)
      · have e : rk = k := by rw [← beq_iff_eq (a := rk), ← hz]; exact h
        rw [if_pos e] at hri
        ((conv => whnf); repeat (first | (apply load_at; (conv => lhs; whnf); (with_reducible assumption); rfl; (conv => whnf)) | (apply load_at; (conv => lhs; rw [add_plain, add_plain]); (with_reducible assumption); rfl; (conv => whnf)) | (apply loads_at; (conv => lhs; whnf); (with_reducible assumption); rfl; (conv => whnf)) | (refine ⟨⟨by omega, by omega⟩, ?_⟩; (conv => whnf))))
        refine load_step c1 ?_
        ((conv => whnf); repeat (first | (apply load_at; (conv => lhs; whnf); (with_reducible assumption); rfl; (conv => whnf)) | (apply load_at; (conv => lhs; rw [add_plain, add_plain]); (with_reducible assumption); rfl; (conv => whnf)) | (apply loads_at; (conv => lhs; whnf); (with_reducible assumption); rfl; (conv => whnf)) | (refine ⟨⟨by omega, by omega⟩, ?_⟩; (conv => whnf))))
        refine append_mine tab_ok rfl rfl rfl rfl rfl ⟨_, rfl, fun k h => by cases h⟩ ⟨_, rfl, rfl⟩ (by decide) (Mine.nil F3 F3 _ _ (Ext.refl _)) (m := rv.length) (ys := bytesOf rv) (y := .slice rb rv.length rcc) ⟨by simp [bytesOf], .inl ⟨_, _, rfl, g2⟩⟩ (hone_bytes rv) (by show 2 * (0 + rv.length) * 1 ≤ _; have : rv.length ≤ 400 := g6; omega) fun s' F5 h1 _ => ?_
        rw [Nat.zero_add, List.nil_append] at h1
        ((conv => whnf); repeat (first | (apply load_at; (conv => lhs; whnf); (with_reducible assumption); rfl; (conv => whnf)) | (apply load_at; (conv => lhs; rw [add_plain, add_plain]); (with_reducible assumption); rfl; (conv => whnf)) | (apply loads_at; (conv => lhs; whnf); (with_reducible assumption); rfl; (conv => whnf)) | (refine ⟨⟨by omega, by omega⟩, ?_⟩; (conv => whnf))))
        exact ⟨.inl ⟨_, _, hri, rfl, h1.newRow⟩, h1.ext⟩
      · have e : ¬ rk = k := by rw [← beq_iff_eq (a := rk), ← hz]; exact fun e => by rw [e] at h; cases h
        rw [if_neg e] at hri
        ((conv => whnf); repeat (first | (apply load_at; (conv => lhs; whnf); (with_reducible assumption); rfl; (conv => whnf)) | (apply load_at; (conv => lhs; rw [add_plain, add_plain]); (with_reducible assumption); rfl; (conv => whnf)) | (apply loads_at; (conv => lhs; whnf); (with_reducible assumption); rfl; (conv => whnf)) | (refine ⟨⟨by omega, by omega⟩, ?_⟩; (conv => whnf))))
        refine ⟨m - 1, by omega, j + 1, by omega, ?_, hri, rfl⟩
        rw [← hws]
        rfl
  · have hj : j = rs.length := by have := of_decide_eq_false h; omega
    rw [hj, show rs.length = (rs.map pd).length by rw [List.length_map], List.drop_length] at hri
    ((conv => whnf); repeat (first | (apply load_at; (conv => lhs; whnf); (with_reducible assumption); rfl; (conv => whnf)) | (apply load_at; (conv => lhs; rw [add_plain, add_plain]); (with_reducible assumption); rfl; (conv => whnf)) | (apply loads_at; (conv => lhs; whnf); (with_reducible assumption); rfl; (conv => whnf)) | (refine ⟨⟨by omega, by omega⟩, ?_⟩; (conv => whnf))))
    exact ⟨.inr ⟨hri, rfl⟩, Ext.refl _⟩
theorem prs_one (rs : List PR) : ∀ v ∈ prsV rs, v.oneCell' = true := fun v hv => by
  unfold prsV at hv
  obtain ⟨r, _, hr⟩ := List.mem_flatMap.1 hv
  exact pr_one r v hr
theorem rowAt_gain {G F F' : Heap} {A : Option Addr} {vs : List Value} (hr : RowAt F' A vs) (h : ∀ a, A = some a → F a.block = none) : RowAt (gain G F F') A vs := fun j v hj => by
  obtain ⟨a, h1, h2⟩ := hr j v hj
  refine ⟨a, h1, ?_⟩
  unfold Heap.cell? at h2 ⊢
  rw [gain_new (by rw [add_block]; exact h a h1)]
  exact h2
/-- A table has another row. -/
theorem Tab.store {F F' G : Heap} {t : Nat} {rs rs' : List PR} {A : Option Addr} {c : Nat} (h : Tab F G t rs) (hE : Ext F F') (hc : rs'.length ≤ c) (hr : RowAt F' A (prsV rs')) (hn : ∀ a, A = some a → F a.block = none) (hok : ∀ r ∈ rs', PrG (gain G F F') r) :
    Tab (F'.put t (tabO (.slice A rs'.length c))) (gain G F F') t rs' ∧ Ext G (gain G F F') ∧ Keeps F (F'.put t (tabO (.slice A rs'.length c))) (some t) := by
  obtain ⟨A0, c0, h1, _, _⟩ := h.cell
  have hg : gain G F F' t = none := by rw [gain_old h1]; exact h.gt
  refine ⟨⟨⟨A, c, Heap.put_same _ _ _, hc, rowAt_gain hr hn⟩, ?_, hg, hok⟩, gain_ext h.base, fun b o hb hne => ?_⟩
  · refine Ext.put (fun b o hb => ?_) hg _
    cases e : F b with
    | none => rw [gain_new e] at hb; exact hb
    | some u => rw [gain_old e] at hb; exact hE _ _ (h.base _ _ hb)
  · rw [Heap.put_other _ _ (fun e => hne (by rw [e]))]
    exact hE _ _ hb
def delF (k : List UInt8) (r : PR) : Bool := !(r.k == k)
theorem del (rs : List PR) (t : Nat) (k : List UInt8) (KA : Option Addr) (kc : Nat) (F G : Heap) (hT : Tab F G t rs) (hl : rs.length ≤ 100000) (hk : RowAt F KA (bytesOf k)) :
    FnK Try.prog 59 #[.pointer (some ⟨t, 0, none⟩), .slice KA k.length kc] F (fun v F' => (∃ b, v = .bool b) ∧ ∃ G', Tab F' G' t (rs.filter (delF k)) ∧ Ext G G' ∧ Keeps F F' (some t)) := by
  have hT0 := hT
  obtain ⟨⟨A, c, hB, hlc, hrow⟩, hbase, hgt, hok⟩ := hT
  have hrF := hrow.mono hbase
  obtain ⟨res, hres⟩ : ∃ res, res = rs.filter (delF k) := ⟨_, rfl⟩
  rw [← hres]
  (refine fn_walk tab_ok Try.func59 rfl rfl rfl rfl ?_; (conv => whnf))
  ((conv => whnf); repeat (first | (apply load_at; (conv => lhs; whnf); (with_reducible assumption); rfl; (conv => whnf)) | (apply load_at; (conv => lhs; rw [add_plain, add_plain]); (with_reducible assumption); rfl; (conv => whnf)) | (apply loads_at; (conv => lhs; whnf); (with_reducible assumption); rfl; (conv => whnf)) | (refine ⟨⟨by omega, by omega⟩, ?_⟩; (conv => whnf))))
  refine loop_slots [0, 1, 5, 6] (fun m vs F' => ∃ (j : Nat) (acc : List PR) (S : Value), j + m = rs.length ∧ vs = [.pointer (some ⟨t, 0, none⟩), .slice KA k.length kc, S, .int .i64 (j : Int)] ∧ Mine F F' S 75 2 acc.length (prsV acc) ∧ acc = (rs.take j).filter (delF k)) rs.length ⟨0, [], .slice none 0 0, by omega, rfl, Mine.nil F F _ _ (Ext.refl _), rfl⟩ ?_
  rintro m vs F2 ρ ⟨j, acc, S, hm, rfl, hM, hacc⟩
  have hB2 := hM.ext _ _ hB
  have hr2 := hrF.mono hM.ext
  have hk2 := hk.mono hM.ext
  obtain ⟨A1, c1, rfl, hc1, hr1⟩ := hM.own.row
  ((conv => whnf); repeat (first | (apply load_at; (conv => lhs; whnf); (with_reducible assumption); rfl; (conv => whnf)) | (apply load_at; (conv => lhs; rw [add_plain, add_plain]); (with_reducible assumption); rfl; (conv => whnf)) | (apply loads_at; (conv => lhs; whnf); (with_reducible assumption); rfl; (conv => whnf)) | (refine ⟨⟨by omega, by omega⟩, ?_⟩; (conv => whnf))))
  refine cond_split (fun h => ?_) (fun h => ?_)
  · have hj : j < rs.length := by have := of_decide_eq_true h; omega
    obtain ⟨ad, rfl⟩ := hrF.some (by rw [prsV_len]; omega)
    have hws : IntKind.i64.wrap ((j : Int) + 1) = ((j + 1 : Nat) : Int) := wrap_succ (by omega)
    have hal : acc.length ≤ 100000 := by
      have := List.length_filter_le (delF k) (rs.take j)
      rw [← hacc, List.length_take] at this
      omega
    have hstep : (rs.take (j + 1)).filter (delF k) = acc ++ if delF k rs[j] = true then [rs[j]] else [] := by
      rw [List.take_add_one, List.getElem?_eq_getElem hj, Option.toList_some, List.filter_append, ← hacc]
      congr 1
      rw [List.filter_cons, List.filter_nil]
    have hG := ((hok _ (List.getElem_mem hj)).mono hbase).mono hM.ext
    have hC := fun i (v : Value) (hi : (prA rs[j]).toList[i]? = some v) => pr_cell hr2 hj hi
    have hL := fun (K : Value → Prop) => pr_load (K := K) hr2 hj
    generalize rs[j] = r at hG hC hL hstep
    have hdf : delF k r = !(r.k == k) := rfl
    generalize delF k r = dz at hdf hstep
    obtain ⟨rk, ra, rc, rv, rb, rcc⟩ := r
    obtain ⟨⟨g1, g2, g3, g4⟩, g5, g6⟩ := hG
    have c0 := hC 0 _ rfl
    have hq := str_beq rk k
    replace hdf : dz = !(rk == k) := hdf
    rw [← Bool.not_inj_iff, ← hdf] at hq
    ((conv => whnf); repeat (first | (apply load_at; (conv => lhs; whnf); (with_reducible assumption); rfl; (conv => whnf)) | (apply load_at; (conv => lhs; rw [add_plain, add_plain]); (with_reducible assumption); rfl; (conv => whnf)) | (apply loads_at; (conv => lhs; whnf); (with_reducible assumption); rfl; (conv => whnf)) | (refine ⟨⟨by omega, by omega⟩, ?_⟩; (conv => whnf))))
    refine draw_cut (fun env' F' => [0, 1, 5, 6, 28].map env' = [.pointer (some ⟨t, 0, none⟩), .slice KA k.length kc, .slice A1 acc.length c1, .int .i64 (j : Int), .bool dz] ∧ F' = F2) (fun K hK => ?_) ?_
    · refine draw_tree_at tab_ok (by kernel_rfl) [] (DT.row [0, 1, 2, 3, 4, 5, 6, 7, 9] (.fork (DT.row [8, 10, 11] .nil) (DT.row [10, 8, 11] .nil))) (by kernel_rfl) (fun _ => none) (fun _ _ h => by cases h) ?_
      ((conv => whnf); repeat (first | (apply load_at; (conv => lhs; whnf); (with_reducible assumption); rfl; (conv => whnf)) | (apply load_at; (conv => lhs; rw [add_plain, add_plain]); (with_reducible assumption); rfl; (conv => whnf)) | (apply loads_at; (conv => lhs; whnf); (with_reducible assumption); rfl; (conv => whnf)) | (refine ⟨⟨by omega, by omega⟩, ?_⟩; (conv => whnf))))
      refine load_step c0 ?_
      ((conv => whnf); repeat (first | (apply load_at; (conv => lhs; whnf); (with_reducible assumption); rfl; (conv => whnf)) | (apply load_at; (conv => lhs; rw [add_plain, add_plain]); (with_reducible assumption); rfl; (conv => whnf)) | (apply loads_at; (conv => lhs; whnf); (with_reducible assumption); rfl; (conv => whnf)) | (refine ⟨⟨by omega, by omega⟩, ?_⟩; (conv => whnf))))
      refine ⟨?_, ?_⟩
      · ((conv => whnf); repeat (first | (apply load_at; (conv => lhs; whnf); (with_reducible assumption); rfl; (conv => whnf)) | (apply load_at; (conv => lhs; rw [add_plain, add_plain]); (with_reducible assumption); rfl; (conv => whnf)) | (apply loads_at; (conv => lhs; whnf); (with_reducible assumption); rfl; (conv => whnf)) | (refine ⟨⟨by omega, by omega⟩, ?_⟩; (conv => whnf))))
        refine conv_str tab_ok rk rfl rfl rfl rfl rfl g1 ?_
        (conv => whnf)
        refine ⟨(fun _ _ h => by cases h), ?_⟩
        ((conv => whnf); repeat (first | (apply load_at; (conv => lhs; whnf); (with_reducible assumption); rfl; (conv => whnf)) | (apply load_at; (conv => lhs; rw [add_plain, add_plain]); (with_reducible assumption); rfl; (conv => whnf)) | (apply loads_at; (conv => lhs; whnf); (with_reducible assumption); rfl; (conv => whnf)) | (refine ⟨⟨by omega, by omega⟩, ?_⟩; (conv => whnf))))
        refine conv_str tab_ok k rfl rfl rfl rfl rfl hk2 ?_
        (conv => whnf)
        refine ⟨(fun _ _ h => by cases h), Ext.refl _, ?_⟩
        ((conv => whnf); repeat (first | (apply load_at; (conv => lhs; whnf); (with_reducible assumption); rfl; (conv => whnf)) | (apply load_at; (conv => lhs; rw [add_plain, add_plain]); (with_reducible assumption); rfl; (conv => whnf)) | (apply loads_at; (conv => lhs; whnf); (with_reducible assumption); rfl; (conv => whnf)) | (refine ⟨⟨by omega, by omega⟩, ?_⟩; (conv => whnf))))
        refine hK _ _ ⟨?_, rfl⟩
        rw [← hq]
        rfl
      · ((conv => whnf); repeat (first | (apply load_at; (conv => lhs; whnf); (with_reducible assumption); rfl; (conv => whnf)) | (apply load_at; (conv => lhs; rw [add_plain, add_plain]); (with_reducible assumption); rfl; (conv => whnf)) | (apply loads_at; (conv => lhs; whnf); (with_reducible assumption); rfl; (conv => whnf)) | (refine ⟨⟨by omega, by omega⟩, ?_⟩; (conv => whnf))))
        refine conv_str tab_ok k rfl rfl rfl rfl rfl hk2 ?_
        (conv => whnf)
        refine ⟨(fun _ _ h => by cases h), Ext.refl _, ?_⟩
        ((conv => whnf); repeat (first | (apply load_at; (conv => lhs; whnf); (with_reducible assumption); rfl; (conv => whnf)) | (apply load_at; (conv => lhs; rw [add_plain, add_plain]); (with_reducible assumption); rfl; (conv => whnf)) | (apply loads_at; (conv => lhs; whnf); (with_reducible assumption); rfl; (conv => whnf)) | (refine ⟨⟨by omega, by omega⟩, ?_⟩; (conv => whnf))))
        refine conv_str tab_ok rk rfl rfl rfl rfl rfl g1 ?_
        (conv => whnf)
        refine ⟨(fun _ _ h => by cases h), ?_⟩
        ((conv => whnf); repeat (first | (apply load_at; (conv => lhs; whnf); (with_reducible assumption); rfl; (conv => whnf)) | (apply load_at; (conv => lhs; rw [add_plain, add_plain]); (with_reducible assumption); rfl; (conv => whnf)) | (apply loads_at; (conv => lhs; whnf); (with_reducible assumption); rfl; (conv => whnf)) | (refine ⟨⟨by omega, by omega⟩, ?_⟩; (conv => whnf))))
        refine hK _ _ ⟨?_, rfl⟩
        rw [← hq]
        rfl
    · rintro env' F3 ⟨he, rfl⟩
      refine short [0, 1, 5, 6, 28] [.pointer (some ⟨t, 0, none⟩), .slice KA k.length kc, .slice A1 acc.length c1, .int .i64 (j : Int), .bool dz] he fun ρ => ?_
      ((conv => whnf); repeat (first | (apply load_at; (conv => lhs; whnf); (with_reducible assumption); rfl; (conv => whnf)) | (apply load_at; (conv => lhs; rw [add_plain, add_plain]); (with_reducible assumption); rfl; (conv => whnf)) | (apply loads_at; (conv => lhs; whnf); (with_reducible assumption); rfl; (conv => whnf)) | (refine ⟨⟨by omega, by omega⟩, ?_⟩; (conv => whnf))))
      refine cond_split (fun h => ?_) (fun h => ?_)
      · have e : dz = true := h
        rw [if_pos e] at hstep
        refine short [0, 1, 5, 6] [.pointer (some ⟨t, 0, none⟩), .slice KA k.length kc, .slice A1 acc.length c1, .int .i64 (j : Int)] rfl fun ρ => ?_
        ((conv => whnf); repeat (first | (apply load_at; (conv => lhs; whnf); (with_reducible assumption); rfl; (conv => whnf)) | (apply load_at; (conv => lhs; rw [add_plain, add_plain]); (with_reducible assumption); rfl; (conv => whnf)) | (apply loads_at; (conv => lhs; whnf); (with_reducible assumption); rfl; (conv => whnf)) | (refine ⟨⟨by omega, by omega⟩, ?_⟩; (conv => whnf))))
        refine hL _ ?_
        ((conv => whnf); repeat (first | (apply load_at; (conv => lhs; whnf); (with_reducible assumption); rfl; (conv => whnf)) | (apply load_at; (conv => lhs; rw [add_plain, add_plain]); (with_reducible assumption); rfl; (conv => whnf)) | (apply loads_at; (conv => lhs; whnf); (with_reducible assumption); rfl; (conv => whnf)) | (refine ⟨⟨by omega, by omega⟩, ?_⟩; (conv => whnf))))
        refine new_step (prO (.slice ra rk.length rc) (.slice rb rv.length rcc)) rfl fun g h0_g => ?_
        have hE_g := Ext.new h0_g (prO (.slice ra rk.length rc) (.slice rb rv.length rcc))
        have hB_g := Heap.put_same F3 g (prO (.slice ra rk.length rc) (.slice rb rv.length rcc))
        generalize F3.put g _ = F4 at hE_g hB_g ⊢
        replace hM := hM.mono hE_g
        ((conv => whnf); repeat (first | (apply load_at; (conv => lhs; whnf); (with_reducible assumption); rfl; (conv => whnf)) | (apply load_at; (conv => lhs; rw [add_plain, add_plain]); (with_reducible assumption); rfl; (conv => whnf)) | (apply loads_at; (conv => lhs; whnf); (with_reducible assumption); rfl; (conv => whnf)) | (refine ⟨⟨by omega, by omega⟩, ?_⟩; (conv => whnf))))
        refine append_mine tab_ok (m := 1) (ys := (prA ⟨rk, ra, rc, rv, rb, rcc⟩).toList) (y := .slice (some ⟨g, 0, none⟩) 1 1) rfl rfl rfl rfl rfl ⟨_, rfl, fun k h => by cases h⟩ ⟨_, rfl, rfl⟩ (by decide) hM ⟨rfl, .inl ⟨_, _, rfl, row_blk hB_g⟩⟩ (pr_one _) (by show 2 * (acc.length + 1) * 48 ≤ _; omega) fun S5 F5 hM5 hk5 => ?_
        have hM' : Mine F F5 S5 75 2 (acc ++ [(⟨rk, ra, rc, rv, rb, rcc⟩ : PR)]).length (prsV (acc ++ [(⟨rk, ra, rc, rv, rb, rcc⟩ : PR)])) := by
          rw [List.length_append, prsV_app]; exact hM5
        ((conv => whnf); repeat (first | (apply load_at; (conv => lhs; whnf); (with_reducible assumption); rfl; (conv => whnf)) | (apply load_at; (conv => lhs; rw [add_plain, add_plain]); (with_reducible assumption); rfl; (conv => whnf)) | (apply loads_at; (conv => lhs; whnf); (with_reducible assumption); rfl; (conv => whnf)) | (refine ⟨⟨by omega, by omega⟩, ?_⟩; (conv => whnf))))
        refine ⟨m - 1, by omega, j + 1, _, S5, by omega, ?_, hM', hstep.symm⟩
        rw [← hws]
        rfl
      · have e : ¬ dz = true := by rw [show dz = false from h]; decide
        rw [if_neg e, List.append_nil] at hstep
        ((conv => whnf); repeat (first | (apply load_at; (conv => lhs; whnf); (with_reducible assumption); rfl; (conv => whnf)) | (apply load_at; (conv => lhs; rw [add_plain, add_plain]); (with_reducible assumption); rfl; (conv => whnf)) | (apply loads_at; (conv => lhs; whnf); (with_reducible assumption); rfl; (conv => whnf)) | (refine ⟨⟨by omega, by omega⟩, ?_⟩; (conv => whnf))))
        refine ⟨m - 1, by omega, j + 1, acc, _, by omega, ?_, hM, hstep.symm⟩
        rw [← hws]
        rfl
  · have hj : j = rs.length := by have := of_decide_eq_false h; omega
    rw [hj, List.take_length, ← hres] at hacc
    subst hacc
    ((conv => whnf); repeat (first | (apply load_at; (conv => lhs; whnf); (with_reducible assumption); rfl; (conv => whnf)) | (apply load_at; (conv => lhs; rw [add_plain, add_plain]); (with_reducible assumption); rfl; (conv => whnf)) | (apply loads_at; (conv => lhs; whnf); (with_reducible assumption); rfl; (conv => whnf)) | (refine ⟨⟨by omega, by omega⟩, ?_⟩; (conv => whnf))))
    refine store_step t 0 _ #[.slice A1 acc.length c1] rfl hB2 rfl rfl (.inl (Nat.le_refl 0)) (one_slice _ _ _) ?_
    obtain ⟨T1, T2, T3⟩ := hT0.store hM.ext (rs' := acc) (c := c1) (A := A1) hc1 hr1 (fun a ha => hM.fresh _ (by rw [ha]; rfl)) (fun r hr => by
      rw [hres] at hr
      exact (hok r (List.mem_filter.1 hr).1).mono (gain_ext hbase))
    ((conv => whnf); repeat (first | (apply load_at; (conv => lhs; whnf); (with_reducible assumption); rfl; (conv => whnf)) | (apply load_at; (conv => lhs; rw [add_plain, add_plain]); (with_reducible assumption); rfl; (conv => whnf)) | (apply loads_at; (conv => lhs; whnf); (with_reducible assumption); rfl; (conv => whnf)) | (refine ⟨⟨by omega, by omega⟩, ?_⟩; (conv => whnf))))
    exact ⟨⟨_, rfl⟩, _, T1, T2, T3⟩
end Go.Proofs.Ytlkdbmoocajjlaa.Al

/- exchequerlaw52.awake, over what is known of memory. -/
import Derived.Test.YtlkdbmoocajjlaaDfM
namespace Go.Proofs.Ytlkdbmoocajjlaa.Al
open Go Go.Al Go.Proofs Go.RowKit
set_option maxHeartbeats 8000000
set_option maxRecDepth 100000
set_option linter.unusedVariables false
set_option linter.unusedSimpArgs false
abbrev byO (x : Int) : Obj := .cells #[.int .u8 x] 5 (1, 2)
theorem awake (F : Heap) : FnK Try.prog 18 #[] F (fun v F' => v = .bool true ∧ Ext F F') := by
  have hP : betweenP [([97], []), ([98], [])] [([98], [120]), ([99], [])] = [([98], [120]), ([99], [])] := by kernel_rfl
  have hD : betweenD [([97], []), ([98], [])] [([98], [120]), ([99], [])] = [[97]] := by kernel_rfl
  have hA : applyL [([97], []), ([98], [])] [([98], [120]), ([99], [])] [[97]] = [([98], [120]), ([99], [])] := by kernel_rfl
  have hR : risB [[97], [98]] = true := by kernel_rfl
  (refine fn_walk tab_ok Try.func18 rfl rfl rfl rfl ?_; (conv => whnf))
  have hX := Ext.refl F
  ((conv => whnf); repeat (first | (apply load_at; (conv => lhs; whnf); (with_reducible assumption); rfl; (conv => whnf)) | (apply load_at; (conv => lhs; rw [add_plain, add_plain]); (with_reducible assumption); rfl; (conv => whnf)) | (apply loads_at; (conv => lhs; whnf); (with_reducible assumption); rfl; (conv => whnf)) | (refine ⟨⟨by omega, by omega⟩, ?_⟩; (conv => whnf))))
  refine new_step (.cells #[.int .u8 97] 5) rfl fun u h0_u => ?_
  have hE_u := Ext.new h0_u (.cells #[.int .u8 97] 5)
  have hB_u := Heap.put_same F u (.cells #[.int .u8 97] 5)
  generalize F.put u _ = A0 at hE_u hB_u ⊢
  ((conv => whnf); repeat (first | (apply load_at; (conv => lhs; whnf); (with_reducible assumption); rfl; (conv => whnf)) | (apply load_at; (conv => lhs; rw [add_plain, add_plain]); (with_reducible assumption); rfl; (conv => whnf)) | (apply loads_at; (conv => lhs; whnf); (with_reducible assumption); rfl; (conv => whnf)) | (refine ⟨⟨by omega, by omega⟩, ?_⟩; (conv => whnf))))
  refine conv_mark tab_ok rfl rfl rfl rfl hB_u ?_
  have hM_u := Heap.put_same A0 u (byO 97)
  have hX_u : Ext F (A0.put u (byO 97)) := hE_u.put h0_u _
  generalize A0.put u _ = B0 at hM_u hX_u ⊢
  replace hX := hX.trans hX_u
  ((conv => whnf); repeat (first | (apply load_at; (conv => lhs; whnf); (with_reducible assumption); rfl; (conv => whnf)) | (apply load_at; (conv => lhs; rw [add_plain, add_plain]); (with_reducible assumption); rfl; (conv => whnf)) | (apply loads_at; (conv => lhs; whnf); (with_reducible assumption); rfl; (conv => whnf)) | (refine ⟨⟨by omega, by omega⟩, ?_⟩; (conv => whnf))))
  refine new_step (.cells #[.int .u8 98] 5) rfl fun y h0_y => ?_
  have hE_y := Ext.new h0_y (.cells #[.int .u8 98] 5)
  have hB_y := Heap.put_same B0 y (.cells #[.int .u8 98] 5)
  generalize B0.put y _ = A1 at hE_y hB_y ⊢
  ((conv => whnf); repeat (first | (apply load_at; (conv => lhs; whnf); (with_reducible assumption); rfl; (conv => whnf)) | (apply load_at; (conv => lhs; rw [add_plain, add_plain]); (with_reducible assumption); rfl; (conv => whnf)) | (apply loads_at; (conv => lhs; whnf); (with_reducible assumption); rfl; (conv => whnf)) | (refine ⟨⟨by omega, by omega⟩, ?_⟩; (conv => whnf))))
  refine conv_mark tab_ok rfl rfl rfl rfl hB_y ?_
  have hM_y := Heap.put_same A1 y (byO 98)
  have hX_y : Ext B0 (A1.put y (byO 98)) := hE_y.put h0_y _
  generalize A1.put y _ = B1 at hM_y hX_y ⊢
  replace hM_u := hX_y _ _ hM_u
  replace hX := hX.trans hX_y
  ((conv => whnf); repeat (first | (apply load_at; (conv => lhs; whnf); (with_reducible assumption); rfl; (conv => whnf)) | (apply load_at; (conv => lhs; rw [add_plain, add_plain]); (with_reducible assumption); rfl; (conv => whnf)) | (apply loads_at; (conv => lhs; whnf); (with_reducible assumption); rfl; (conv => whnf)) | (refine ⟨⟨by omega, by omega⟩, ?_⟩; (conv => whnf))))
  refine new_step (.cells (prsV [⟨[97], some ⟨u, 0, none⟩, 1, [], none, 0⟩, ⟨[98], some ⟨y, 0, none⟩, 1, [], none, 0⟩]).toArray 75) rfl fun z h0_z => ?_
  have hE_z := Ext.new h0_z (.cells (prsV [⟨[97], some ⟨u, 0, none⟩, 1, [], none, 0⟩, ⟨[98], some ⟨y, 0, none⟩, 1, [], none, 0⟩]).toArray 75)
  have hB_z := Heap.put_same B1 z (.cells (prsV [⟨[97], some ⟨u, 0, none⟩, 1, [], none, 0⟩, ⟨[98], some ⟨y, 0, none⟩, 1, [], none, 0⟩]).toArray 75)
  generalize B1.put z _ = C2 at hE_z hB_z ⊢
  replace hM_u := hE_z _ _ hM_u
  replace hM_y := hE_z _ _ hM_y
  replace hX := hX.trans hE_z
  ((conv => whnf); repeat (first | (apply load_at; (conv => lhs; whnf); (with_reducible assumption); rfl; (conv => whnf)) | (apply load_at; (conv => lhs; rw [add_plain, add_plain]); (with_reducible assumption); rfl; (conv => whnf)) | (apply loads_at; (conv => lhs; whnf); (with_reducible assumption); rfl; (conv => whnf)) | (refine ⟨⟨by omega, by omega⟩, ?_⟩; (conv => whnf))))
  refine new_step (.cells #[.int .u8 98] 5) rfl fun p h0_p => ?_
  have hE_p := Ext.new h0_p (.cells #[.int .u8 98] 5)
  have hB_p := Heap.put_same C2 p (.cells #[.int .u8 98] 5)
  generalize C2.put p _ = A3 at hE_p hB_p ⊢
  ((conv => whnf); repeat (first | (apply load_at; (conv => lhs; whnf); (with_reducible assumption); rfl; (conv => whnf)) | (apply load_at; (conv => lhs; rw [add_plain, add_plain]); (with_reducible assumption); rfl; (conv => whnf)) | (apply loads_at; (conv => lhs; whnf); (with_reducible assumption); rfl; (conv => whnf)) | (refine ⟨⟨by omega, by omega⟩, ?_⟩; (conv => whnf))))
  refine conv_mark tab_ok rfl rfl rfl rfl hB_p ?_
  have hM_p := Heap.put_same A3 p (byO 98)
  have hX_p : Ext C2 (A3.put p (byO 98)) := hE_p.put h0_p _
  generalize A3.put p _ = B3 at hM_p hX_p ⊢
  replace hM_u := hX_p _ _ hM_u
  replace hM_y := hX_p _ _ hM_y
  replace hX := hX.trans hX_p
  ((conv => whnf); repeat (first | (apply load_at; (conv => lhs; whnf); (with_reducible assumption); rfl; (conv => whnf)) | (apply load_at; (conv => lhs; rw [add_plain, add_plain]); (with_reducible assumption); rfl; (conv => whnf)) | (apply loads_at; (conv => lhs; whnf); (with_reducible assumption); rfl; (conv => whnf)) | (refine ⟨⟨by omega, by omega⟩, ?_⟩; (conv => whnf))))
  replace hB_z := hX_p _ _ hB_z
  refine new_step (.cells #[.int .u8 120] 5) rfl fun q h0_q => ?_
  have hE_q := Ext.new h0_q (.cells #[.int .u8 120] 5)
  have hB_q := Heap.put_same B3 q (.cells #[.int .u8 120] 5)
  generalize B3.put q _ = A4 at hE_q hB_q ⊢
  ((conv => whnf); repeat (first | (apply load_at; (conv => lhs; whnf); (with_reducible assumption); rfl; (conv => whnf)) | (apply load_at; (conv => lhs; rw [add_plain, add_plain]); (with_reducible assumption); rfl; (conv => whnf)) | (apply loads_at; (conv => lhs; whnf); (with_reducible assumption); rfl; (conv => whnf)) | (refine ⟨⟨by omega, by omega⟩, ?_⟩; (conv => whnf))))
  refine conv_mark tab_ok rfl rfl rfl rfl hB_q ?_
  have hM_q := Heap.put_same A4 q (byO 120)
  have hX_q : Ext B3 (A4.put q (byO 120)) := hE_q.put h0_q _
  generalize A4.put q _ = B4 at hM_q hX_q ⊢
  replace hM_u := hX_q _ _ hM_u
  replace hM_y := hX_q _ _ hM_y
  replace hM_p := hX_q _ _ hM_p
  replace hX := hX.trans hX_q
  ((conv => whnf); repeat (first | (apply load_at; (conv => lhs; whnf); (with_reducible assumption); rfl; (conv => whnf)) | (apply load_at; (conv => lhs; rw [add_plain, add_plain]); (with_reducible assumption); rfl; (conv => whnf)) | (apply loads_at; (conv => lhs; whnf); (with_reducible assumption); rfl; (conv => whnf)) | (refine ⟨⟨by omega, by omega⟩, ?_⟩; (conv => whnf))))
  replace hB_z := hX_q _ _ hB_z
  refine new_step (.cells #[.int .u8 99] 5) rfl fun s h0_s => ?_
  have hE_s := Ext.new h0_s (.cells #[.int .u8 99] 5)
  have hB_s := Heap.put_same B4 s (.cells #[.int .u8 99] 5)
  generalize B4.put s _ = A5 at hE_s hB_s ⊢
  ((conv => whnf); repeat (first | (apply load_at; (conv => lhs; whnf); (with_reducible assumption); rfl; (conv => whnf)) | (apply load_at; (conv => lhs; rw [add_plain, add_plain]); (with_reducible assumption); rfl; (conv => whnf)) | (apply loads_at; (conv => lhs; whnf); (with_reducible assumption); rfl; (conv => whnf)) | (refine ⟨⟨by omega, by omega⟩, ?_⟩; (conv => whnf))))
  refine conv_mark tab_ok rfl rfl rfl rfl hB_s ?_
  have hM_s := Heap.put_same A5 s (byO 99)
  have hX_s : Ext B4 (A5.put s (byO 99)) := hE_s.put h0_s _
  generalize A5.put s _ = B5 at hM_s hX_s ⊢
  replace hM_u := hX_s _ _ hM_u
  replace hM_y := hX_s _ _ hM_y
  replace hM_p := hX_s _ _ hM_p
  replace hM_q := hX_s _ _ hM_q
  replace hX := hX.trans hX_s
  ((conv => whnf); repeat (first | (apply load_at; (conv => lhs; whnf); (with_reducible assumption); rfl; (conv => whnf)) | (apply load_at; (conv => lhs; rw [add_plain, add_plain]); (with_reducible assumption); rfl; (conv => whnf)) | (apply loads_at; (conv => lhs; whnf); (with_reducible assumption); rfl; (conv => whnf)) | (refine ⟨⟨by omega, by omega⟩, ?_⟩; (conv => whnf))))
  replace hB_z := hX_s _ _ hB_z
  refine new_step (.cells (prsV [⟨[98], some ⟨p, 0, none⟩, 1, [120], some ⟨q, 0, none⟩, 1⟩, ⟨[99], some ⟨s, 0, none⟩, 1, [], none, 0⟩]).toArray 75) rfl fun w h0_w => ?_
  have hE_w := Ext.new h0_w (.cells (prsV [⟨[98], some ⟨p, 0, none⟩, 1, [120], some ⟨q, 0, none⟩, 1⟩, ⟨[99], some ⟨s, 0, none⟩, 1, [], none, 0⟩]).toArray 75)
  have hB_w := Heap.put_same B5 w (.cells (prsV [⟨[98], some ⟨p, 0, none⟩, 1, [120], some ⟨q, 0, none⟩, 1⟩, ⟨[99], some ⟨s, 0, none⟩, 1, [], none, 0⟩]).toArray 75)
  generalize B5.put w _ = C6 at hE_w hB_w ⊢
  replace hM_u := hE_w _ _ hM_u
  replace hM_y := hE_w _ _ hM_y
  replace hM_p := hE_w _ _ hM_p
  replace hM_q := hE_w _ _ hM_q
  replace hM_s := hE_w _ _ hM_s
  replace hX := hX.trans hE_w
  ((conv => whnf); repeat (first | (apply load_at; (conv => lhs; whnf); (with_reducible assumption); rfl; (conv => whnf)) | (apply load_at; (conv => lhs; rw [add_plain, add_plain]); (with_reducible assumption); rfl; (conv => whnf)) | (apply loads_at; (conv => lhs; whnf); (with_reducible assumption); rfl; (conv => whnf)) | (refine ⟨⟨by omega, by omega⟩, ?_⟩; (conv => whnf))))
  replace hB_z := hE_w _ _ hB_z
  have oa : ∀ r ∈ ([⟨[97], some ⟨u, 0, none⟩, 1, [], none, 0⟩, ⟨[98], some ⟨y, 0, none⟩, 1, [], none, 0⟩] : List PR), PrG C6 r := fun r hr => by
    rcases List.mem_cons.1 hr with rfl | hr
    · exact ⟨⟨row_blk hM_u, RowAt.nil _ _, Nat.le_refl _, Nat.le_refl _⟩, by simp, by simp⟩
    · rw [List.mem_singleton.1 hr]
      exact ⟨⟨row_blk hM_y, RowAt.nil _ _, Nat.le_refl _, Nat.le_refl _⟩, by simp, by simp⟩
  have ob : ∀ r ∈ ([⟨[98], some ⟨p, 0, none⟩, 1, [120], some ⟨q, 0, none⟩, 1⟩, ⟨[99], some ⟨s, 0, none⟩, 1, [], none, 0⟩] : List PR), PrG C6 r := fun r hr => by
    rcases List.mem_cons.1 hr with rfl | hr
    · exact ⟨⟨row_blk hM_p, row_blk hM_q, Nat.le_refl _, Nat.le_refl _⟩, by simp, by simp⟩
    · rw [List.mem_singleton.1 hr]
      exact ⟨⟨row_blk hM_s, RowAt.nil _ _, Nat.le_refl _, Nat.le_refl _⟩, by simp, by simp⟩
  have hza := row_blk hB_z
  have hwb := row_blk hB_w
  rw [List.toList_toArray] at hza hwb
  have hla : ([⟨[97], some ⟨u, 0, none⟩, 1, [], none, 0⟩, ⟨[98], some ⟨y, 0, none⟩, 1, [], none, 0⟩] : List PR).length = 2 := rfl
  have hlb : ([⟨[98], some ⟨p, 0, none⟩, 1, [120], some ⟨q, 0, none⟩, 1⟩, ⟨[99], some ⟨s, 0, none⟩, 1, [], none, 0⟩] : List PR).length = 2 := rfl
  have hpa : ([⟨[97], some ⟨u, 0, none⟩, 1, [], none, 0⟩, ⟨[98], some ⟨y, 0, none⟩, 1, [], none, 0⟩] : List PR).map pd = [([97], []), ([98], [])] := rfl
  have hpb : ([⟨[98], some ⟨p, 0, none⟩, 1, [120], some ⟨q, 0, none⟩, 1⟩, ⟨[99], some ⟨s, 0, none⟩, 1, [], none, 0⟩] : List PR).map pd = [([98], [120]), ([99], [])] := rfl
  have hka : ([⟨[97], some ⟨u, 0, none⟩, 1, [], none, 0⟩, ⟨[98], some ⟨y, 0, none⟩, 1, [], none, 0⟩] : List PR).map PR.k = [[97], [98]] := rfl
  generalize ([⟨[97], some ⟨u, 0, none⟩, 1, [], none, 0⟩, ⟨[98], some ⟨y, 0, none⟩, 1, [], none, 0⟩] : List PR) = xs at oa hza hla hpa hka
  generalize ([⟨[98], some ⟨p, 0, none⟩, 1, [120], some ⟨q, 0, none⟩, 1⟩, ⟨[99], some ⟨s, 0, none⟩, 1, [], none, 0⟩] : List PR) = ys at ob hwb hlb hpb
  have hb1 := between xs ys (some ⟨z, 0, none⟩) (some ⟨w, 0, none⟩) 2 2 C6 hza hwb (by omega) (by omega) (by omega) (by omega) oa ob
  rw [hpa, hpb, hP, hD, hla, hlb] at hb1
  ((conv => whnf); repeat (first | (apply load_at; (conv => lhs; whnf); (with_reducible assumption); rfl; (conv => whnf)) | (apply load_at; (conv => lhs; rw [add_plain, add_plain]); (with_reducible assumption); rfl; (conv => whnf)) | (apply loads_at; (conv => lhs; whnf); (with_reducible assumption); rfl; (conv => whnf)) | (refine ⟨⟨by omega, by omega⟩, ?_⟩; (conv => whnf))))
  refine call_of hb1 ?_
  rintro v E1 ⟨ps, ds, S, T, rfl, hS, hps, hT, hds, hX1⟩
  obtain ⟨A1, c1, rfl, hc1, hr1⟩ := hS.out
  obtain ⟨A2, c2, rfl, hc2, hr2⟩ := hT.out
  have hl1 : ps.length = 2 := by have := congrArg List.length hps; rw [List.length_map] at this; exact this
  have hl2 : ds.length = 1 := by have := congrArg List.length hds; rw [List.length_map] at this; exact this
  obtain ⟨d, rfl⟩ : ∃ d, ds = [d] := List.length_eq_one_iff.1 hl2
  obtain ⟨dk, da, dc⟩ := d
  have hdk : dk = [97] := (List.cons.inj hds).1
  obtain ⟨ad, rfl⟩ := hr2.some (by rw [bsV_len]; exact Nat.one_pos)
  have hcd := bs_cell (j := 0) hr2 rfl
  have hgd := hT.ok _ List.mem_cons_self
  have hap := apply xs ps [⟨dk, da, dc⟩] (some ⟨z, 0, none⟩) A1 (some ad) 2 c1 c2 E1 (hza.mono hX1) hr1 hr2 (by omega) (by omega) (by simp) (by omega) (fun r hr => (oa r hr).mono hX1) hS.ok hT.ok
  rw [hpa, hps, hds, hA, hla] at hap
  have hq : ((⟨dk.toArray⟩ : ByteArray).toList == (⟨[97].toArray⟩ : ByteArray).toList) = true := by rw [str_beq, hdk]; decide
  refine short [1, 2, 24] [.slice (some ⟨z, 0, none⟩) 2 2, .slice (some ⟨w, 0, none⟩) 2 2, .tuple #[.slice A1 ps.length c1, .slice (some ad) 1 c2]] rfl fun ρ => ?_
  ((conv => whnf); repeat (first | (apply load_at; (conv => lhs; whnf); (with_reducible assumption); rfl; (conv => whnf)) | (apply load_at; (conv => lhs; rw [add_plain, add_plain]); (with_reducible assumption); rfl; (conv => whnf)) | (apply loads_at; (conv => lhs; whnf); (with_reducible assumption); rfl; (conv => whnf)) | (refine ⟨⟨by omega, by omega⟩, ?_⟩; (conv => whnf))))
  refine cond_split (fun h => ?_) (fun h => absurd (show ((ps.length : Int) == 2) = false from h) (by rw [hl1]; decide))
  ((conv => whnf); repeat (first | (apply load_at; (conv => lhs; whnf); (with_reducible assumption); rfl; (conv => whnf)) | (apply load_at; (conv => lhs; rw [add_plain, add_plain]); (with_reducible assumption); rfl; (conv => whnf)) | (apply loads_at; (conv => lhs; whnf); (with_reducible assumption); rfl; (conv => whnf)) | (refine ⟨⟨by omega, by omega⟩, ?_⟩; (conv => whnf))))
  refine load_step hcd ?_
  ((conv => whnf); repeat (first | (apply load_at; (conv => lhs; whnf); (with_reducible assumption); rfl; (conv => whnf)) | (apply load_at; (conv => lhs; rw [add_plain, add_plain]); (with_reducible assumption); rfl; (conv => whnf)) | (apply loads_at; (conv => lhs; whnf); (with_reducible assumption); rfl; (conv => whnf)) | (refine ⟨⟨by omega, by omega⟩, ?_⟩; (conv => whnf))))
  refine conv_str tab_ok dk rfl rfl rfl rfl rfl hgd ?_
  ((conv => whnf); repeat (first | (apply load_at; (conv => lhs; whnf); (with_reducible assumption); rfl; (conv => whnf)) | (apply load_at; (conv => lhs; rw [add_plain, add_plain]); (with_reducible assumption); rfl; (conv => whnf)) | (apply loads_at; (conv => lhs; whnf); (with_reducible assumption); rfl; (conv => whnf)) | (refine ⟨⟨by omega, by omega⟩, ?_⟩; (conv => whnf))))
  refine cond_split (fun h => ?_) (fun h => absurd (show ((⟨dk.toArray⟩ : ByteArray).toList == (⟨[97].toArray⟩ : ByteArray).toList) = false from h) (by rw [hq]; decide))
  ((conv => whnf); repeat (first | (apply load_at; (conv => lhs; whnf); (with_reducible assumption); rfl; (conv => whnf)) | (apply load_at; (conv => lhs; rw [add_plain, add_plain]); (with_reducible assumption); rfl; (conv => whnf)) | (apply loads_at; (conv => lhs; whnf); (with_reducible assumption); rfl; (conv => whnf)) | (refine ⟨⟨by omega, by omega⟩, ?_⟩; (conv => whnf))))
  refine call_of hap ?_
  rintro v E2 ⟨rs, hrs, hrp, hX2⟩
  obtain ⟨A3, c3, rfl, hc3, hr3⟩ := hrs.out
  have hpp := plainPairs rs ys A3 (some ⟨w, 0, none⟩) c3 2 E2 hr3 ((hwb.mono hX1).mono hX2) (fun r hr => (hrs.ok r hr).ok) (fun r hr => (((ob r hr).mono hX1).mono hX2).ok) (by have := congrArg List.length hrp; rw [List.length_map] at this; rw [this]; decide)
  rw [hrp, hpb, beq_self_eq_true, hlb] at hpp
  ((conv => whnf); repeat (first | (apply load_at; (conv => lhs; whnf); (with_reducible assumption); rfl; (conv => whnf)) | (apply load_at; (conv => lhs; rw [add_plain, add_plain]); (with_reducible assumption); rfl; (conv => whnf)) | (apply loads_at; (conv => lhs; whnf); (with_reducible assumption); rfl; (conv => whnf)) | (refine ⟨⟨by omega, by omega⟩, ?_⟩; (conv => whnf))))
  refine call_of hpp ?_
  rintro v E3 ⟨rfl, hX3⟩
  have hX13 := (hX1.trans hX2).trans hX3
  have hri := right xs (some ⟨z, 0, none⟩) 2 E3 (hza.mono hX13) (by omega) (by omega) (fun r hr => ((oa r hr).mono hX13).ok.1)
  rw [hka, hR, hla] at hri
  ((conv => whnf); repeat (first | (apply load_at; (conv => lhs; whnf); (with_reducible assumption); rfl; (conv => whnf)) | (apply load_at; (conv => lhs; rw [add_plain, add_plain]); (with_reducible assumption); rfl; (conv => whnf)) | (apply loads_at; (conv => lhs; whnf); (with_reducible assumption); rfl; (conv => whnf)) | (refine ⟨⟨by omega, by omega⟩, ?_⟩; (conv => whnf))))
  refine call_of hri ?_
  rintro v E4 ⟨rfl, hX4⟩
  ((conv => whnf); repeat (first | (apply load_at; (conv => lhs; whnf); (with_reducible assumption); rfl; (conv => whnf)) | (apply load_at; (conv => lhs; rw [add_plain, add_plain]); (with_reducible assumption); rfl; (conv => whnf)) | (apply loads_at; (conv => lhs; whnf); (with_reducible assumption); rfl; (conv => whnf)) | (refine ⟨⟨by omega, by omega⟩, ?_⟩; (conv => whnf))))
  exact ⟨rfl, hX.trans (hX13.trans hX4)⟩
end Go.Proofs.Ytlkdbmoocajjlaa.Al

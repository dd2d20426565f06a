/- The contract of the bucket laws' awake. -/
import Derived.Test.YtkahpaipciooiadBktLaw
namespace Go.Proofs.Ytkahpaipciooiad.Al
open Go Go.Al Go.Proofs Go.RowKit
set_option maxHeartbeats 8000000
set_option maxRecDepth 100000
set_option linter.unusedVariables false
set_option linter.unusedSimpArgs false
def ps0 : List PD := [([97], [98])]
theorem find0 : findI [97] ps0 = 0 := by decide +kernel
theorem may0 : MayP ⟨2, 0, ps0⟩ := by
  refine ⟨by decide, by decide, by decide, by decide, fun i p h => ?_⟩
  cases i with
  | zero =>
    obtain rfl : ([97], [98]) = p := by simpa [ps0] using h
    exact ⟨by decide, find0⟩
  | succ i => simp [ps0] at h
theorem awake (F : Heap) : FnK Try.prog 9 #[] F (fun v F' => v = .bool true ∧ Ext F F') := by
  have hmy := (mayB_iff _).2 may0
  have hpp := parse_put may0
  have hpl := pageB_len may0
  generalize pageB ⟨2, 0, ps0⟩ = page at hpp hpl
  have hput : ∀ (rs : List PR) (A : Option Addr) (c : Nat) (G : Heap), RowAt G A (prsV rs) → (∀ r ∈ rs, PrOk G r) → Sm rs → rs.map pd = ps0 → FnK Try.prog 14 #[.agg (bkC 2 0 (.slice A rs.length c))] G (fun v F' => ∃ S page, v = .tuple #[S, .int .i64 0] ∧ parseB page = some ⟨2, 0, ps0⟩ ∧ page.length = 240 ∧ Mine G F' S 5 1 240 (bytesOf page)) := by
    intro rs A c G h1 h2 h3 h4
    refine (put 2 0 rs A c G h1 h2 h3).mono fun v F' hv => ?_
    rw [h4] at hv
    rcases hv with ⟨_, S, h5, h6⟩ | ⟨h5, _⟩
    · exact ⟨S, _, h5, parse_put may0, pageB_len may0, h6⟩
    · rw [hmy] at h5; cases h5
  clear hpp hpl hmy
  (refine fn_walk tab_ok Try.func9 rfl rfl rfl rfl ?_; (conv => whnf))
  refine new_step (.cells #[.int .u8 97] 5) rfl fun u h0_u => ?_
  have hE_u := Ext.new h0_u (.cells #[.int .u8 97] 5)
  have hB_u := Heap.put_same F u (.cells #[.int .u8 97] 5)
  generalize F.put u _ = F1 at hE_u hB_u ⊢
  (conv => whnf)
  refine conv_mark tab_ok rfl rfl rfl rfl hB_u ?_
  have hU := Heap.put_same F1 u (.cells #[.int .u8 97] 5 (1, 2))
  have hE1 := (Ext.refl F).trans (hE_u.trans (Ext.refl _))
  have hX1 : Ext F (F1.put u (.cells #[.int .u8 97] 5 (1, 2))) := hE_u.put h0_u _
  clear hE1
  generalize F1.put u _ = F2 at hU hX1 ⊢
  (conv => whnf)
  refine new_step (.cells #[.int .u8 98] 5) rfl fun y h0_y => ?_
  have hE_y := Ext.new h0_y (.cells #[.int .u8 98] 5)
  have hB_y := Heap.put_same F2 y (.cells #[.int .u8 98] 5)
  generalize F2.put y _ = F3 at hE_y hB_y ⊢
  have hU3 := hE_y _ _ hU
  (conv => whnf)
  refine conv_mark tab_ok rfl rfl rfl rfl hB_y ?_
  have hY := Heap.put_same F3 y (.cells #[.int .u8 98] 5 (1, 2))
  have hX2 : Ext F2 (F3.put y (.cells #[.int .u8 98] 5 (1, 2))) := hE_y.put h0_y _
  generalize F3.put y _ = F4 at hY hX2 ⊢
  have hU4 := hX2 _ _ hU
  replace hX2 := hX1.trans hX2
  (conv => whnf)
  refine new_step (.cells (prC (.slice (some ⟨u, 0, none⟩) 1 1) (.slice (some ⟨y, 0, none⟩) 1 1)) 54) rfl fun z h0_z => ?_
  have hE_z := Ext.new h0_z (.cells (prC (.slice (some ⟨u, 0, none⟩) 1 1) (.slice (some ⟨y, 0, none⟩) 1 1)) 54)
  have hB_z := Heap.put_same F4 z (.cells (prC (.slice (some ⟨u, 0, none⟩) 1 1) (.slice (some ⟨y, 0, none⟩) 1 1)) 54)
  generalize F4.put z _ = F5 at hE_z hB_z ⊢
  have hU5 := hE_z _ _ hU4
  have hY5 := hE_z _ _ hY
  replace hX2 := hX2.trans hE_z
  have hp5 := hput [⟨[97], some ⟨u, 0, none⟩, 1, [98], some ⟨y, 0, none⟩, 1⟩] (some ⟨z, 0, none⟩) 1 F5 (row_blk hB_z) (by
    intro r hr
    rw [List.mem_singleton.1 hr]
    exact ⟨row_blk hU5, row_blk hY5, Nat.le_refl _, Nat.le_refl _⟩) ⟨by simp, by
    intro r hr
    rw [List.mem_singleton.1 hr]
    exact ⟨by simp, by simp⟩⟩ rfl
  (conv => whnf)
  refine call_of hp5 ?_
  rintro v F6 ⟨S, pg, rfl, hpp, hpl, hM⟩
  obtain ⟨A6, c6, rfl, hc6, hR6⟩ := hM.own.row
  replace hX2 := hX2.trans hM.ext
  clear hp5 hput
  have hpr := parse pg A6 c6 F6 hR6 (by omega) (by omega)
  rw [hpl] at hpr
  (conv => whnf)
  refine call_of hpr ?_
  rintro v F7 ⟨hv, hE7⟩
  replace hX2 := hX2.trans hE7
  unfold ParR at hv
  rw [hpp] at hv
  rcases hv with ⟨B, rs, A7, c7, hB, hrs, rfl, hR7, hok, hsm⟩ | ⟨h, _⟩
  case inr => cases h
  obtain rfl := Option.some.inj hB
  dsimp only at hrs
  have hl7 : rs.length = 1 := by have := congrArg List.length hrs; rwa [List.length_map] at this
  (conv => whnf)
  refine new_step (zeroB) rfl fun q h0_q => ?_
  have hU_q := Heap.put_same F7 q (zeroB)
  have hX_q := fun o => (ext_put_put h0_q (o := zeroB) (o' := o))
  generalize F7.put q (zeroB) = F8 at hU_q hX_q ⊢
  (conv => whnf)
  refine store_step q 0 _ (bkC 2 0 (.slice A7 rs.length c7)) rfl hU_q rfl rfl (.inl (Nat.le_refl 0)) (osB _ _ _ _ _) ?_
  have hB_q := Heap.put_same F8 q (bkO 2 0 (.slice A7 rs.length c7))
  have hE_q := hX_q (bkO 2 0 (.slice A7 rs.length c7))
  clear hU_q hX_q
  generalize F8.put q _ = F8 at hB_q hE_q ⊢
  ((conv => whnf); repeat (first | (apply load_at; (conv => lhs; whnf); (with_reducible assumption); rfl; (conv => whnf)) | (apply loads_at; (conv => lhs; whnf); (with_reducible assumption); rfl; (conv => whnf)) | (refine ⟨⟨by omega, by omega⟩, ?_⟩; (conv => whnf))))
  refine new_step (.cells #[.int .u8 97] 5) rfl fun g h0_g => ?_
  have hE_g := Ext.new h0_g (.cells #[.int .u8 97] 5)
  have hB_g := Heap.put_same F8 g (.cells #[.int .u8 97] 5)
  generalize F8.put g _ = F9 at hE_g hB_g ⊢
  have hQ9 := hE_g _ _ hB_q
  (conv => whnf)
  refine conv_mark tab_ok rfl rfl rfl rfl hB_g ?_
  have hG := Heap.put_same F9 g (.cells #[.int .u8 97] 5 (1, 2))
  have hX10 : Ext F8 (F9.put g (.cells #[.int .u8 97] 5 (1, 2))) := hE_g.put h0_g _
  generalize F9.put g _ = F10 at hG hX10 ⊢
  have hQ10 := hX10 _ _ hB_q
  have hE10 := hE_q.trans hX10
  have hf := find 2 0 rs A7 c7 [97] (some ⟨g, 0, none⟩) 1 F10 (hR7.mono hE10) (fun r hr => (hok r hr).mono hE10) (row_blk hG) hsm.1
  rw [hrs, find0] at hf
  (conv => whnf)
  refine call_of hf ?_
  rintro v F11 ⟨rfl, hE11⟩
  have hQ11 := hE11 _ _ hQ10
  replace hE11 := hE10.trans hE11
  have hsz := size 2 0 rs A7 c7 F11 (hR7.mono hE11) hsm
  rw [hrs] at hsz
  ((conv => whnf); repeat (first | (apply load_at; (conv => lhs; whnf); (with_reducible assumption); rfl; (conv => whnf)) | (apply loads_at; (conv => lhs; whnf); (with_reducible assumption); rfl; (conv => whnf)) | (refine ⟨⟨by omega, by omega⟩, ?_⟩; (conv => whnf))))
  refine call_of hsz ?_
  rintro v F12 ⟨rfl, hE12⟩
  (conv => whnf)
  exact ⟨rfl, hX2.trans (hE11.trans hE12)⟩
end Go.Proofs.Ytkahpaipciooiad.Al

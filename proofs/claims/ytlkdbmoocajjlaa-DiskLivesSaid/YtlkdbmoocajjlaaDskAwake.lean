/- Disks: exchequerlaw03.awake, over what is known of memory. -/
import Derived.Test.YtlkdbmoocajjlaaDskE
namespace Go.Proofs.Ytlkdbmoocajjlaa.Al
open Go Go.Al Go.Proofs Go.RowKit
set_option maxHeartbeats 8000000
set_option maxRecDepth 100000
set_option linter.unusedVariables false
set_option linter.unusedSimpArgs false
abbrev awk1 : DS := writeS (newS 4) 1 (List.replicate 256 7)
abbrev awk2 : DS := flushS awk1
abbrev awk3 : DS := writeS awk2 1 (List.replicate 256 8)
abbrev awk4 : DS := writeS awk3 2 (List.replicate 256 9)
abbrev awk5 : DS := crashS awk4 [1]
theorem newRow_apart {D F F' : Heap} {v : Value} {l : List UInt8} (hE : Ext D F) (h : NewRow F F' v l) : ∃ R A c, v = .slice A l.length c ∧ l.length ≤ c ∧ Ext R F' ∧ Apart D R ∧ RowAt R A (bytesOf l) := by
  obtain ⟨A, c, h1, h2, h3, h4⟩ := h
  refine ⟨gain emptyH F F', A, c, h1, h2, fun c o hc => ?_, fun c hc => ?_, rowAt_gain h3 h4⟩
  · cases e : F c with
    | none => rw [gain_new e] at hc; exact hc
    | some u => rw [gain_old e] at hc; cases hc
  · cases e : D c with
    | none => exact absurd e hc
    | some o => exact gain_old (hE _ _ e)
theorem awake (F : Heap) : FnK Try.prog 6 #[] F (fun v F' => v = .bool true ∧ Ext F F') := by
  (refine fn_walk tab_ok Try.func6 rfl rfl rfl rfl ?_; (conv => whnf))
  refine call_of (new 4 F) ?_
  rintro v F1 h
  rcases h with ⟨h, _⟩ | ⟨_, _, b, D1, rfl, hM1, hD1⟩
  · omega
  ((conv => whnf); repeat (first | (apply load_at; (conv => lhs; whnf); (with_reducible assumption); rfl; (conv => whnf)) | (apply load_at; (conv => lhs; rw [add_plain, add_plain]); (with_reducible assumption); rfl; (conv => whnf)) | (apply loads_at; (conv => lhs; whnf); (with_reducible assumption); rfl; (conv => whnf)) | (refine ⟨⟨by omega, by omega⟩, ?_⟩; (conv => whnf))))
  refine call_of (sector 7 F1) ?_
  rintro v F2 ⟨hr, hE2⟩
  obtain ⟨R, A, c, rfl, hc, hR, hA, hrow⟩ := newRow_apart hM1.inn hr
  have hM2 := hM1.trans (Moves.ext hM1.inn hE2)
  clear hM1 hE2
  refine short [1, 17, 18, 19] [.pointer (some ⟨b, 0, none⟩), .bool false, .pointer (some ⟨b, 0, none⟩), .slice A (List.replicate 256 7).length c] rfl fun ρ => ?_
  ((conv => whnf); repeat (first | (apply load_at; (conv => lhs; whnf); (with_reducible assumption); rfl; (conv => whnf)) | (apply load_at; (conv => lhs; rw [add_plain, add_plain]); (with_reducible assumption); rfl; (conv => whnf)) | (apply loads_at; (conv => lhs; whnf); (with_reducible assumption); rfl; (conv => whnf)) | (refine ⟨⟨by omega, by omega⟩, ?_⟩; (conv => whnf))))
  refine call_of (write hM2.inn hD1 hR hA (List.replicate 256 7) A c hrow (by decide) 1 (by decide)) ?_
  rintro v F3 ⟨hv, D3, hM3, hD3⟩
  rw [show writeE (newS 4) 1 (List.replicate 256 7) = 0 by kernel_rfl] at hv
  subst hv
  replace hM3 := hM2.trans hM3
  clear hM2 hR hA hrow hr
  change Dk D3 b awk1 at hD3
  refine short [1, 17, 20] [.pointer (some ⟨b, 0, none⟩), .bool false, .int .i64 0] rfl fun ρ => ?_
  ((conv => whnf); repeat (first | (apply load_at; (conv => lhs; whnf); (with_reducible assumption); rfl; (conv => whnf)) | (apply load_at; (conv => lhs; rw [add_plain, add_plain]); (with_reducible assumption); rfl; (conv => whnf)) | (apply loads_at; (conv => lhs; whnf); (with_reducible assumption); rfl; (conv => whnf)) | (refine ⟨⟨by omega, by omega⟩, ?_⟩; (conv => whnf))))
  refine call_of (flush hM3.inn hD3) ?_
  rintro v F4 ⟨hv, D4, hM4, hD4⟩
  rw [show flushE awk1 = 0 by kernel_rfl] at hv
  subst hv
  replace hM4 := hM3.trans hM4
  clear hM3
  change Dk D4 b awk2 at hD4
  refine short [1, 23, 25] [.pointer (some ⟨b, 0, none⟩), .bool false, .int .i64 0] rfl fun ρ => ?_
  ((conv => whnf); repeat (first | (apply load_at; (conv => lhs; whnf); (with_reducible assumption); rfl; (conv => whnf)) | (apply load_at; (conv => lhs; rw [add_plain, add_plain]); (with_reducible assumption); rfl; (conv => whnf)) | (apply loads_at; (conv => lhs; whnf); (with_reducible assumption); rfl; (conv => whnf)) | (refine ⟨⟨by omega, by omega⟩, ?_⟩; (conv => whnf))))
  refine call_of (sector 8 F4) ?_
  rintro v F5 ⟨hr, hE5⟩
  obtain ⟨R, A, c, rfl, hc, hR, hA, hrow⟩ := newRow_apart hM4.inn hr
  have hM5 := hM4.trans (Moves.ext hM4.inn hE5)
  clear hM4 hE5
  refine short [1, 28, 29, 30] [.pointer (some ⟨b, 0, none⟩), .bool false, .pointer (some ⟨b, 0, none⟩), .slice A (List.replicate 256 8).length c] rfl fun ρ => ?_
  ((conv => whnf); repeat (first | (apply load_at; (conv => lhs; whnf); (with_reducible assumption); rfl; (conv => whnf)) | (apply load_at; (conv => lhs; rw [add_plain, add_plain]); (with_reducible assumption); rfl; (conv => whnf)) | (apply loads_at; (conv => lhs; whnf); (with_reducible assumption); rfl; (conv => whnf)) | (refine ⟨⟨by omega, by omega⟩, ?_⟩; (conv => whnf))))
  refine call_of (write hM5.inn hD4 hR hA (List.replicate 256 8) A c hrow (by decide) 1 (by decide)) ?_
  rintro v F6 ⟨hv, D6, hM6, hD6⟩
  rw [show writeE awk2 1 (List.replicate 256 8) = 0 by kernel_rfl] at hv
  subst hv
  replace hM6 := hM5.trans hM6
  clear hM5 hR hA hrow hr
  change Dk D6 b awk3 at hD6
  refine short [1, 28, 31] [.pointer (some ⟨b, 0, none⟩), .bool false, .int .i64 0] rfl fun ρ => ?_
  ((conv => whnf); repeat (first | (apply load_at; (conv => lhs; whnf); (with_reducible assumption); rfl; (conv => whnf)) | (apply load_at; (conv => lhs; rw [add_plain, add_plain]); (with_reducible assumption); rfl; (conv => whnf)) | (apply loads_at; (conv => lhs; whnf); (with_reducible assumption); rfl; (conv => whnf)) | (refine ⟨⟨by omega, by omega⟩, ?_⟩; (conv => whnf))))
  refine call_of (sector 9 F6) ?_
  rintro v F7 ⟨hr, hE7⟩
  obtain ⟨R, A, c, rfl, hc, hR, hA, hrow⟩ := newRow_apart hM6.inn hr
  have hM7 := hM6.trans (Moves.ext hM6.inn hE7)
  clear hM6 hE7
  refine short [1, 34, 35, 36] [.pointer (some ⟨b, 0, none⟩), .bool false, .pointer (some ⟨b, 0, none⟩), .slice A (List.replicate 256 9).length c] rfl fun ρ => ?_
  ((conv => whnf); repeat (first | (apply load_at; (conv => lhs; whnf); (with_reducible assumption); rfl; (conv => whnf)) | (apply load_at; (conv => lhs; rw [add_plain, add_plain]); (with_reducible assumption); rfl; (conv => whnf)) | (apply loads_at; (conv => lhs; whnf); (with_reducible assumption); rfl; (conv => whnf)) | (refine ⟨⟨by omega, by omega⟩, ?_⟩; (conv => whnf))))
  refine call_of (write hM7.inn hD6 hR hA (List.replicate 256 9) A c hrow (by decide) 2 (by decide)) ?_
  rintro v F8 ⟨hv, D8, hM8, hD8⟩
  rw [show writeE awk3 2 (List.replicate 256 9) = 0 by kernel_rfl] at hv
  subst hv
  replace hM8 := hM7.trans hM8
  clear hM7 hR hA hrow hr
  change Dk D8 b awk4 at hD8
  refine short [1, 34, 37] [.pointer (some ⟨b, 0, none⟩), .bool false, .int .i64 0] rfl fun ρ => ?_
  ((conv => whnf); repeat (first | (apply load_at; (conv => lhs; whnf); (with_reducible assumption); rfl; (conv => whnf)) | (apply load_at; (conv => lhs; rw [add_plain, add_plain]); (with_reducible assumption); rfl; (conv => whnf)) | (apply loads_at; (conv => lhs; whnf); (with_reducible assumption); rfl; (conv => whnf)) | (refine ⟨⟨by omega, by omega⟩, ?_⟩; (conv => whnf))))
  refine new_step (.cells #[.int .i64 1] 3) rfl fun g h0_g => ?_
  have hE_g := Ext.new h0_g (.cells #[.int .i64 1] 3)
  have hB_g := Heap.put_same F8 g (.cells #[.int .i64 1] 3)
  generalize F8.put g _ = F9 at hE_g hB_g ⊢
  have hM9 := hM8.trans (Moves.ext hM8.inn hE_g)
  have hRg : Ext (Heap.put emptyH g (.cells #[.int .i64 1] 3)) F9 := fun c o hc => by
    by_cases e : c = g
    · subst e; rw [Heap.put_same] at hc; rw [hB_g]; exact hc
    · rw [Heap.put_other _ _ e] at hc; cases hc
  have hAg : Apart D8 (Heap.put emptyH g (.cells #[.int .i64 1] 3)) := fun c hc => by
    rw [Heap.put_other _ _ (fun e => by subst e; exact hc (hM8.inn.none h0_g))]; rfl
  ((conv => whnf); repeat (first | (apply load_at; (conv => lhs; whnf); (with_reducible assumption); rfl; (conv => whnf)) | (apply load_at; (conv => lhs; rw [add_plain, add_plain]); (with_reducible assumption); rfl; (conv => whnf)) | (apply loads_at; (conv => lhs; whnf); (with_reducible assumption); rfl; (conv => whnf)) | (refine ⟨⟨by omega, by omega⟩, ?_⟩; (conv => whnf))))
  refine call_of (crash hM9.inn hD8 hRg hAg [1] (some ⟨g, 0, none⟩) 1 (row_blk (Heap.put_same _ _ _)) (by decide)) ?_
  rintro v F10 ⟨rfl, D10, hM10, hD10⟩
  replace hM10 := hM9.trans hM10
  change Dk D10 b awk5 at hD10
  clear hM9 hM8 hRg hAg hD8 hE_g hB_g
  refine short [1] [.pointer (some ⟨b, 0, none⟩)] rfl fun ρ => ?_
  ((conv => whnf); repeat (first | (apply load_at; (conv => lhs; whnf); (with_reducible assumption); rfl; (conv => whnf)) | (apply load_at; (conv => lhs; rw [add_plain, add_plain]); (with_reducible assumption); rfl; (conv => whnf)) | (apply loads_at; (conv => lhs; whnf); (with_reducible assumption); rfl; (conv => whnf)) | (refine ⟨⟨by omega, by omega⟩, ?_⟩; (conv => whnf))))
  refine call_of (read hM10.inn hD10 1) ?_
  rintro v F11 ⟨u, rfl, hr1, hE11⟩
  rw [show readE awk5 1 = 0 by kernel_rfl]
  rw [show readL awk5 1 = List.replicate 256 7 by kernel_rfl] at hr1
  obtain ⟨A1, c1, rfl, hc1, hw1, _⟩ := hr1
  have hM11 := hM10.trans (Moves.ext hM10.inn hE11)
  ((conv => whnf); repeat (first | (apply load_at; (conv => lhs; whnf); (with_reducible assumption); rfl; (conv => whnf)) | (apply load_at; (conv => lhs; rw [add_plain, add_plain]); (with_reducible assumption); rfl; (conv => whnf)) | (apply loads_at; (conv => lhs; whnf); (with_reducible assumption); rfl; (conv => whnf)) | (refine ⟨⟨by omega, by omega⟩, ?_⟩; (conv => whnf))))
  refine call_of (read hM11.inn hD10 2) ?_
  rintro v F12 ⟨u, rfl, hr2, hE12⟩
  rw [show readE awk5 2 = 0 by kernel_rfl]
  rw [show readL awk5 2 = List.replicate 256 9 by kernel_rfl] at hr2
  obtain ⟨A2, c2, rfl, hc2, hw2, _⟩ := hr2
  have hM12 := hM11.trans (Moves.ext hM11.inn hE12)
  replace hw1 := hw1.mono hE12
  obtain ⟨a1, rfl⟩ := hw1.some (by decide)
  obtain ⟨a2, rfl⟩ := hw2.some (by decide)
  ((conv => whnf); repeat (first | (apply load_at; (conv => lhs; whnf); (with_reducible assumption); rfl; (conv => whnf)) | (apply load_at; (conv => lhs; rw [add_plain, add_plain]); (with_reducible assumption); rfl; (conv => whnf)) | (apply loads_at; (conv => lhs; whnf); (with_reducible assumption); rfl; (conv => whnf)) | (refine ⟨⟨by omega, by omega⟩, ?_⟩; (conv => whnf))))
  refine ⟨⟨by decide, by rw [List.length_replicate]; decide⟩, ?_⟩
  ((conv => whnf); repeat (first | (apply load_at; (conv => lhs; whnf); (with_reducible assumption); rfl; (conv => whnf)) | (apply load_at; (conv => lhs; rw [add_plain, add_plain]); (with_reducible assumption); rfl; (conv => whnf)) | (apply loads_at; (conv => lhs; whnf); (with_reducible assumption); rfl; (conv => whnf)) | (refine ⟨⟨by omega, by omega⟩, ?_⟩; (conv => whnf))))
  refine load_step (v := .int .u8 7) (hw1.cell (j := 0) rfl) ?_
  ((conv => whnf); repeat (first | (apply load_at; (conv => lhs; whnf); (with_reducible assumption); rfl; (conv => whnf)) | (apply load_at; (conv => lhs; rw [add_plain, add_plain]); (with_reducible assumption); rfl; (conv => whnf)) | (apply loads_at; (conv => lhs; whnf); (with_reducible assumption); rfl; (conv => whnf)) | (refine ⟨⟨by omega, by omega⟩, ?_⟩; (conv => whnf))))
  refine ⟨⟨by decide, by rw [List.length_replicate]; decide⟩, ?_⟩
  ((conv => whnf); repeat (first | (apply load_at; (conv => lhs; whnf); (with_reducible assumption); rfl; (conv => whnf)) | (apply load_at; (conv => lhs; rw [add_plain, add_plain]); (with_reducible assumption); rfl; (conv => whnf)) | (apply loads_at; (conv => lhs; whnf); (with_reducible assumption); rfl; (conv => whnf)) | (refine ⟨⟨by omega, by omega⟩, ?_⟩; (conv => whnf))))
  refine load_step (v := .int .u8 9) (hw2.cell (j := 0) rfl) ?_
  ((conv => whnf); repeat (first | (apply load_at; (conv => lhs; whnf); (with_reducible assumption); rfl; (conv => whnf)) | (apply load_at; (conv => lhs; rw [add_plain, add_plain]); (with_reducible assumption); rfl; (conv => whnf)) | (apply loads_at; (conv => lhs; whnf); (with_reducible assumption); rfl; (conv => whnf)) | (refine ⟨⟨by omega, by omega⟩, ?_⟩; (conv => whnf))))
  have hsz : FnK Try.prog 16 #[.pointer (some ⟨b, 0, none⟩)] F12 (fun v F' => v = .int .i64 4 ∧ F' = F12) := by
    obtain ⟨_, ms, mf, S, lS, lF, G, hP⟩ := hD10
    exact size (n := 4) (hM12.inn _ _ hP.cell) (by decide)
  refine call_of hsz ?_
  rintro v F13 ⟨rfl, rfl⟩
  ((conv => whnf); repeat (first | (apply load_at; (conv => lhs; whnf); (with_reducible assumption); rfl; (conv => whnf)) | (apply load_at; (conv => lhs; rw [add_plain, add_plain]); (with_reducible assumption); rfl; (conv => whnf)) | (apply loads_at; (conv => lhs; whnf); (with_reducible assumption); rfl; (conv => whnf)) | (refine ⟨⟨by omega, by omega⟩, ?_⟩; (conv => whnf))))
  exact ⟨rfl, fun c o hc => hM12.out c o hc rfl⟩
end Go.Proofs.Ytlkdbmoocajjlaa.Al

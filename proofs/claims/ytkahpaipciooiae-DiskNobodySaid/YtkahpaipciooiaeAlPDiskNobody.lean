/- The law DiskNobody holds of the program: proved over what is known of memory, each function by its contract. -/
import Derived.Test.YtkahpaipciooiaeAlLawDiskNobody
import Derived.Test.YtkahpaipciooiaeDskAwake
namespace Go.Proofs.Ytkahpaipciooiae.AlDiskNobody
open Go Go.Al Go.Proofs Go.RowKit Go.Proofs.Ytkahpaipciooiae.Al
set_option maxHeartbeats 8000000
set_option maxRecDepth 100000
set_option linter.unusedVariables false
set_option linter.unusedSimpArgs false
theorem law : LawK := by
  intro F i w0 x1 w1 B cb hcb hK1
  have hn : ∀ G : Heap, NR G (.pointer none) := fun G => .inl rfl
  generalize x1.length = m
  (refine fn_walk tab_ok Try.func5 rfl rfl rfl rfl ?_; (conv => whnf))
  refine new_step (dkO false 0 false 0 (.map none) (.map none) (.slice none 0 0) 0) rfl fun z h0_z => ?_
  have hE_z := Ext.new h0_z (dkO false 0 false 0 (.map none) (.map none) (.slice none 0 0) 0)
  have hB_z := Heap.put_same F z (dkO false 0 false 0 (.map none) (.map none) (.slice none 0 0) 0)
  generalize F.put z _ = F1 at hE_z hB_z ⊢
  have hz : NR F1 (.pointer (some ⟨z, 0, none⟩)) := .inr ⟨z, false, 0, false, 0, _, _, _, 0, rfl, hB_z, by decide⟩
  ((conv => whnf); repeat (first | (apply load_at; (conv => lhs; whnf); (with_reducible assumption); rfl; (conv => whnf)) | (apply load_at; (conv => lhs; rw [add_plain, add_plain]); (with_reducible assumption); rfl; (conv => whnf)) | (apply loads_at; (conv => lhs; whnf); (with_reducible assumption); rfl; (conv => whnf)) | (refine ⟨⟨by omega, by omega⟩, ?_⟩; (conv => whnf))))
  refine call_of (readNo (hn F1) i) ?_
  rintro v F2 ⟨rfl, rfl⟩
  ((conv => whnf); repeat (first | (apply load_at; (conv => lhs; whnf); (with_reducible assumption); rfl; (conv => whnf)) | (apply load_at; (conv => lhs; rw [add_plain, add_plain]); (with_reducible assumption); rfl; (conv => whnf)) | (apply loads_at; (conv => lhs; whnf); (with_reducible assumption); rfl; (conv => whnf)) | (refine ⟨⟨by omega, by omega⟩, ?_⟩; (conv => whnf))))
  refine call_of (readNo hz i) ?_
  rintro v F3 ⟨rfl, rfl⟩
  ((conv => whnf); repeat (first | (apply load_at; (conv => lhs; whnf); (with_reducible assumption); rfl; (conv => whnf)) | (apply load_at; (conv => lhs; rw [add_plain, add_plain]); (with_reducible assumption); rfl; (conv => whnf)) | (apply loads_at; (conv => lhs; whnf); (with_reducible assumption); rfl; (conv => whnf)) | (refine ⟨⟨by omega, by omega⟩, ?_⟩; (conv => whnf))))
  refine call_of (armNo (hn F3) i) ?_
  rintro v F4 ⟨rfl, rfl⟩
  ((conv => whnf); repeat (first | (apply load_at; (conv => lhs; whnf); (with_reducible assumption); rfl; (conv => whnf)) | (apply load_at; (conv => lhs; rw [add_plain, add_plain]); (with_reducible assumption); rfl; (conv => whnf)) | (apply loads_at; (conv => lhs; whnf); (with_reducible assumption); rfl; (conv => whnf)) | (refine ⟨⟨by omega, by omega⟩, ?_⟩; (conv => whnf))))
  refine call_of (armNo hz i) ?_
  rintro v F5 ⟨rfl, rfl⟩
  ((conv => whnf); repeat (first | (apply load_at; (conv => lhs; whnf); (with_reducible assumption); rfl; (conv => whnf)) | (apply load_at; (conv => lhs; rw [add_plain, add_plain]); (with_reducible assumption); rfl; (conv => whnf)) | (apply loads_at; (conv => lhs; whnf); (with_reducible assumption); rfl; (conv => whnf)) | (refine ⟨⟨by omega, by omega⟩, ?_⟩; (conv => whnf))))
  refine new_step (.cells #[.int .i64 i] 3) rfl fun g h0_g => ?_
  have hE_g := Ext.new h0_g (.cells #[.int .i64 i] 3)
  have hB_g := Heap.put_same F5 g (.cells #[.int .i64 i] 3)
  generalize F5.put g _ = F6 at hE_g hB_g ⊢
  ((conv => whnf); repeat (first | (apply load_at; (conv => lhs; whnf); (with_reducible assumption); rfl; (conv => whnf)) | (apply load_at; (conv => lhs; rw [add_plain, add_plain]); (with_reducible assumption); rfl; (conv => whnf)) | (apply loads_at; (conv => lhs; whnf); (with_reducible assumption); rfl; (conv => whnf)) | (refine ⟨⟨by omega, by omega⟩, ?_⟩; (conv => whnf))))
  refine call_of (crashNo (hn F6) (some ⟨g, 0, none⟩) 1 1) ?_
  rintro v F7 ⟨rfl, hE7⟩
  ((conv => whnf); repeat (first | (apply load_at; (conv => lhs; whnf); (with_reducible assumption); rfl; (conv => whnf)) | (apply load_at; (conv => lhs; rw [add_plain, add_plain]); (with_reducible assumption); rfl; (conv => whnf)) | (apply loads_at; (conv => lhs; whnf); (with_reducible assumption); rfl; (conv => whnf)) | (refine ⟨⟨by omega, by omega⟩, ?_⟩; (conv => whnf))))
  refine new_step (.cells #[.int .i64 i] 3) rfl fun g2 h0_g2 => ?_
  have hE_g2 := Ext.new h0_g2 (.cells #[.int .i64 i] 3)
  have hB_g2 := Heap.put_same F7 g2 (.cells #[.int .i64 i] 3)
  generalize F7.put g2 _ = F8 at hE_g2 hB_g2 ⊢
  have hE8 := hE_g.trans (hE7.trans hE_g2)
  replace hz := hz.mono hE8
  ((conv => whnf); repeat (first | (apply load_at; (conv => lhs; whnf); (with_reducible assumption); rfl; (conv => whnf)) | (apply load_at; (conv => lhs; rw [add_plain, add_plain]); (with_reducible assumption); rfl; (conv => whnf)) | (apply loads_at; (conv => lhs; whnf); (with_reducible assumption); rfl; (conv => whnf)) | (refine ⟨⟨by omega, by omega⟩, ?_⟩; (conv => whnf))))
  refine call_of (crashNo hz (some ⟨g2, 0, none⟩) 1 1) ?_
  rintro v F9 ⟨rfl, hE9⟩
  replace hz := hz.mono hE9
  have hE := hE_z.trans (hE8.trans hE9)
  clear hE7 hE8 hE9 hE_z hE_g hE_g2 hB_z hB_g hB_g2
  refine short [0, 1, 5, 6, 8, 10] [.int .i64 i, .slice B m cb, .pointer none, .pointer (some ⟨z, 0, none⟩), .int .i64 2, .int .i64 2] rfl fun ρ => ?_
  ((conv => whnf); repeat (first | (apply load_at; (conv => lhs; whnf); (with_reducible assumption); rfl; (conv => whnf)) | (apply load_at; (conv => lhs; rw [add_plain, add_plain]); (with_reducible assumption); rfl; (conv => whnf)) | (apply loads_at; (conv => lhs; whnf); (with_reducible assumption); rfl; (conv => whnf)) | (refine ⟨⟨by omega, by omega⟩, ?_⟩; (conv => whnf))))
  refine call_of (writeNo (hn F9) i _) ?_
  rintro v F10 ⟨rfl, rfl⟩
  refine short [0, 1, 5, 6, 40, 44] [.int .i64 i, .slice B m cb, .pointer none, .pointer (some ⟨z, 0, none⟩), .bool true, .int .i64 2] rfl fun ρ => ?_
  ((conv => whnf); repeat (first | (apply load_at; (conv => lhs; whnf); (with_reducible assumption); rfl; (conv => whnf)) | (apply load_at; (conv => lhs; rw [add_plain, add_plain]); (with_reducible assumption); rfl; (conv => whnf)) | (apply loads_at; (conv => lhs; whnf); (with_reducible assumption); rfl; (conv => whnf)) | (refine ⟨⟨by omega, by omega⟩, ?_⟩; (conv => whnf))))
  refine call_of (writeNo hz i _) ?_
  rintro v F11 ⟨rfl, rfl⟩
  refine short [5, 6, 47, 50] [.pointer none, .pointer (some ⟨z, 0, none⟩), .bool true, .int .i64 2] rfl fun ρ => ?_
  ((conv => whnf); repeat (first | (apply load_at; (conv => lhs; whnf); (with_reducible assumption); rfl; (conv => whnf)) | (apply load_at; (conv => lhs; rw [add_plain, add_plain]); (with_reducible assumption); rfl; (conv => whnf)) | (apply loads_at; (conv => lhs; whnf); (with_reducible assumption); rfl; (conv => whnf)) | (refine ⟨⟨by omega, by omega⟩, ?_⟩; (conv => whnf))))
  refine call_of (flushNo (hn F11)) ?_
  rintro v F12 ⟨rfl, rfl⟩
  refine short [5, 6, 53, 55] [.pointer none, .pointer (some ⟨z, 0, none⟩), .bool true, .int .i64 2] rfl fun ρ => ?_
  ((conv => whnf); repeat (first | (apply load_at; (conv => lhs; whnf); (with_reducible assumption); rfl; (conv => whnf)) | (apply load_at; (conv => lhs; rw [add_plain, add_plain]); (with_reducible assumption); rfl; (conv => whnf)) | (apply loads_at; (conv => lhs; whnf); (with_reducible assumption); rfl; (conv => whnf)) | (refine ⟨⟨by omega, by omega⟩, ?_⟩; (conv => whnf))))
  refine call_of (flushNo hz) ?_
  rintro v F13 ⟨rfl, rfl⟩
  refine short [5, 6, 58, 59] [.pointer none, .pointer (some ⟨z, 0, none⟩), .bool true, .int .i64 2] rfl fun ρ => ?_
  ((conv => whnf); repeat (first | (apply load_at; (conv => lhs; whnf); (with_reducible assumption); rfl; (conv => whnf)) | (apply load_at; (conv => lhs; rw [add_plain, add_plain]); (with_reducible assumption); rfl; (conv => whnf)) | (apply loads_at; (conv => lhs; whnf); (with_reducible assumption); rfl; (conv => whnf)) | (refine ⟨⟨by omega, by omega⟩, ?_⟩; (conv => whnf))))
  refine call_of (sizeNo (hn F13)) ?_
  rintro v F14 ⟨rfl, rfl⟩
  refine short [5, 6, 62, 64] [.pointer none, .pointer (some ⟨z, 0, none⟩), .bool true, .int .i64 0] rfl fun ρ => ?_
  ((conv => whnf); repeat (first | (apply load_at; (conv => lhs; whnf); (with_reducible assumption); rfl; (conv => whnf)) | (apply load_at; (conv => lhs; rw [add_plain, add_plain]); (with_reducible assumption); rfl; (conv => whnf)) | (apply loads_at; (conv => lhs; whnf); (with_reducible assumption); rfl; (conv => whnf)) | (refine ⟨⟨by omega, by omega⟩, ?_⟩; (conv => whnf))))
  refine call_of (pendingNo hz) ?_
  rintro v F15 ⟨rfl, rfl⟩
  refine short [5, 6, 67, 68] [.pointer none, .pointer (some ⟨z, 0, none⟩), .bool true, .slice none 0 0] rfl fun ρ => ?_
  ((conv => whnf); repeat (first | (apply load_at; (conv => lhs; whnf); (with_reducible assumption); rfl; (conv => whnf)) | (apply load_at; (conv => lhs; rw [add_plain, add_plain]); (with_reducible assumption); rfl; (conv => whnf)) | (apply loads_at; (conv => lhs; whnf); (with_reducible assumption); rfl; (conv => whnf)) | (refine ⟨⟨by omega, by omega⟩, ?_⟩; (conv => whnf))))
  refine call_of (writesNo (hn F15)) ?_
  rintro v F16 ⟨rfl, rfl⟩
  refine short [5, 6, 72, 74] [.pointer none, .pointer (some ⟨z, 0, none⟩), .bool true, .int .i64 0] rfl fun ρ => ?_
  ((conv => whnf); repeat (first | (apply load_at; (conv => lhs; whnf); (with_reducible assumption); rfl; (conv => whnf)) | (apply load_at; (conv => lhs; rw [add_plain, add_plain]); (with_reducible assumption); rfl; (conv => whnf)) | (apply loads_at; (conv => lhs; whnf); (with_reducible assumption); rfl; (conv => whnf)) | (refine ⟨⟨by omega, by omega⟩, ?_⟩; (conv => whnf))))
  refine call_of (downNo hz) ?_
  rintro v F17 ⟨rfl, rfl⟩
  refine short [77, 78] [.bool true, .bool false] rfl fun ρ => ?_
  ((conv => whnf); repeat (first | (apply load_at; (conv => lhs; whnf); (with_reducible assumption); rfl; (conv => whnf)) | (apply load_at; (conv => lhs; rw [add_plain, add_plain]); (with_reducible assumption); rfl; (conv => whnf)) | (apply loads_at; (conv => lhs; whnf); (with_reducible assumption); rfl; (conv => whnf)) | (refine ⟨⟨by omega, by omega⟩, ?_⟩; (conv => whnf))))
  refine call_of (Al.awake _) ?_
  rintro v F18 ⟨rfl, hE18⟩
  ((conv => whnf); repeat (first | (apply load_at; (conv => lhs; whnf); (with_reducible assumption); rfl; (conv => whnf)) | (apply load_at; (conv => lhs; rw [add_plain, add_plain]); (with_reducible assumption); rfl; (conv => whnf)) | (apply loads_at; (conv => lhs; whnf); (with_reducible assumption); rfl; (conv => whnf)) | (refine ⟨⟨by omega, by omega⟩, ?_⟩; (conv => whnf))))
  exact ⟨rfl, hE.trans hE18⟩
end Go.Proofs.Ytkahpaipciooiae.AlDiskNobody

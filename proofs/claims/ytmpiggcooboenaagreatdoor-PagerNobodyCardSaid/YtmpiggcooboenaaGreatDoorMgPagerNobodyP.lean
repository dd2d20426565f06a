/- The law PagerNobody holds of the program: proved over what is known of memory, each function by its contract. -/
import Derived.Test.YtmpiggcooboenaaGreatDoorMgPagerNobodyLaw
import Derived.Test.YtmpiggcooboenaaGreatDoorMgPag1
import Derived.Test.YtmpiggcooboenaaGreatDoorMgPag2
import Derived.Test.YtmpiggcooboenaaGreatDoorMgPag3
import Derived.Test.YtmpiggcooboenaaGreatDoorMgPag4
import Derived.Test.YtmpiggcooboenaaGreatDoorMgPag5
import Derived.Test.YtmpiggcooboenaaGreatDoorMgPag6
namespace Go.Proofs.YtmpiggcooboenaaGreatDoor.AlPagerNobody
open Go Go.Al Go.Proofs Go.RowKit Go.Proofs.YtmpiggcooboenaaGreatDoor.Al
set_option maxHeartbeats 8000000
set_option maxRecDepth 100000
set_option linter.unusedVariables false
set_option linter.unusedSimpArgs false
/-- A pager that no call made. -/
def PgNo (F : Heap) (v : Value) : Prop := v = .pointer none ∨ ∃ pb m, v = .pointer (some ⟨pb, 0, none⟩) ∧ F pb = some (.cells #[.pointer none, m] 45)
theorem PgNo.mono {F G : Heap} {v : Value} (h : PgNo F v) (hE : Ext F G) : PgNo G v := by
  rcases h with h | ⟨pb, m, h1, h2⟩
  · exact .inl h
  · exact .inr ⟨pb, m, h1, hE _ _ h2⟩
theorem noReady {F : Heap} {v : Value} (h : PgNo F v) : FnK Tryz.prog 29 #[v] F (fun v F' => v = .bool false ∧ F' = F) := by
  rcases h with rfl | ⟨pb, m, rfl, h⟩
  · (refine fn_walk tab_ok Tryz.func29 rfl rfl rfl rfl ?_; (conv => whnf))
    exact ⟨rfl, rfl⟩
  · (refine fn_walk tab_ok Tryz.func29 rfl rfl rfl rfl ?_; (conv => whnf))
    ((conv => whnf); repeat (first | (apply load_at; (conv => lhs; whnf); (with_reducible assumption); rfl; (conv => whnf)) | (apply load_at; (conv => lhs; rw [add_plain, add_plain]); (with_reducible assumption); rfl; (conv => whnf)) | (apply loads_at; (conv => lhs; whnf); (with_reducible assumption); rfl; (conv => whnf)) | (refine ⟨⟨by omega, by omega⟩, ?_⟩; (conv => whnf))))
    exact ⟨rfl, rfl⟩
theorem noGet {F : Heap} {v : Value} (h : PgNo F v) (i : Int) : FnK Tryz.prog 12 #[v, .int .i64 i] F (fun v F' => v = .tuple #[.slice none 0 0, .int .i64 2] ∧ F' = F) := by
  have k := noReady h
  (refine fn_walk tab_ok Tryz.func12 rfl rfl rfl rfl ?_; (conv => whnf))
  refine call_of k ?_
  rintro v F ⟨rfl, rfl⟩
  ((conv => whnf); repeat (first | (apply load_at; (conv => lhs; whnf); (with_reducible assumption); rfl; (conv => whnf)) | (apply load_at; (conv => lhs; rw [add_plain, add_plain]); (with_reducible assumption); rfl; (conv => whnf)) | (apply loads_at; (conv => lhs; whnf); (with_reducible assumption); rfl; (conv => whnf)) | (refine ⟨⟨by omega, by omega⟩, ?_⟩; (conv => whnf))))
  exact ⟨rfl, rfl⟩
theorem noSet {F : Heap} {v : Value} (h : PgNo F v) (i : Int) : FnK Tryz.prog 8 #[v, .int .i64 i, .slice none 0 0] F (fun v F' => v = .int .i64 2 ∧ F' = F) := by
  have k := noReady h
  (refine fn_walk tab_ok Tryz.func8 rfl rfl rfl rfl ?_; (conv => whnf))
  refine call_of k ?_
  rintro v F ⟨rfl, rfl⟩
  ((conv => whnf); repeat (first | (apply load_at; (conv => lhs; whnf); (with_reducible assumption); rfl; (conv => whnf)) | (apply load_at; (conv => lhs; rw [add_plain, add_plain]); (with_reducible assumption); rfl; (conv => whnf)) | (apply loads_at; (conv => lhs; whnf); (with_reducible assumption); rfl; (conv => whnf)) | (refine ⟨⟨by omega, by omega⟩, ?_⟩; (conv => whnf))))
  exact ⟨rfl, rfl⟩
theorem noAbort {F : Heap} {v : Value} (h : PgNo F v) : FnK Tryz.prog 11 #[v] F (fun v F' => v = .tuple #[] ∧ F' = F) := by
  have k := noReady h
  (refine fn_walk tab_ok Tryz.func11 rfl rfl rfl rfl ?_; (conv => whnf))
  refine call_of k ?_
  rintro v F ⟨rfl, rfl⟩
  ((conv => whnf); repeat (first | (apply load_at; (conv => lhs; whnf); (with_reducible assumption); rfl; (conv => whnf)) | (apply load_at; (conv => lhs; rw [add_plain, add_plain]); (with_reducible assumption); rfl; (conv => whnf)) | (apply loads_at; (conv => lhs; whnf); (with_reducible assumption); rfl; (conv => whnf)) | (refine ⟨⟨by omega, by omega⟩, ?_⟩; (conv => whnf))))
  exact ⟨rfl, rfl⟩
theorem noCommit {F : Heap} {v : Value} (h : PgNo F v) : FnK Tryz.prog 10 #[v] F (fun v F' => v = .int .i64 2 ∧ F' = F) := by
  have k := noReady h
  (refine fn_walk tab_ok Tryz.func10 rfl rfl rfl rfl ?_; (conv => whnf))
  refine call_of k ?_
  rintro v F ⟨rfl, rfl⟩
  ((conv => whnf); repeat (first | (apply load_at; (conv => lhs; whnf); (with_reducible assumption); rfl; (conv => whnf)) | (apply load_at; (conv => lhs; rw [add_plain, add_plain]); (with_reducible assumption); rfl; (conv => whnf)) | (apply loads_at; (conv => lhs; whnf); (with_reducible assumption); rfl; (conv => whnf)) | (refine ⟨⟨by omega, by omega⟩, ?_⟩; (conv => whnf))))
  exact ⟨rfl, rfl⟩
theorem noChanged {F : Heap} {v : Value} (h : PgNo F v) : FnK Tryz.prog 14 #[v] F (fun v F' => v = .slice none 0 0 ∧ F' = F) := by
  have k := noReady h
  (refine fn_walk tab_ok Tryz.func14 rfl rfl rfl rfl ?_; (conv => whnf))
  refine call_of k ?_
  rintro v F ⟨rfl, rfl⟩
  ((conv => whnf); repeat (first | (apply load_at; (conv => lhs; whnf); (with_reducible assumption); rfl; (conv => whnf)) | (apply load_at; (conv => lhs; rw [add_plain, add_plain]); (with_reducible assumption); rfl; (conv => whnf)) | (apply loads_at; (conv => lhs; whnf); (with_reducible assumption); rfl; (conv => whnf)) | (refine ⟨⟨by omega, by omega⟩, ?_⟩; (conv => whnf))))
  exact ⟨rfl, rfl⟩
theorem noPages {F : Heap} {v : Value} (h : PgNo F v) : FnK Tryz.prog 16 #[v] F (fun v F' => v = .int .i64 0 ∧ F' = F) := by
  have k := noReady h
  (refine fn_walk tab_ok Tryz.func16 rfl rfl rfl rfl ?_; (conv => whnf))
  refine call_of k ?_
  rintro v F ⟨rfl, rfl⟩
  ((conv => whnf); repeat (first | (apply load_at; (conv => lhs; whnf); (with_reducible assumption); rfl; (conv => whnf)) | (apply load_at; (conv => lhs; rw [add_plain, add_plain]); (with_reducible assumption); rfl; (conv => whnf)) | (apply loads_at; (conv => lhs; whnf); (with_reducible assumption); rfl; (conv => whnf)) | (refine ⟨⟨by omega, by omega⟩, ?_⟩; (conv => whnf))))
  exact ⟨rfl, rfl⟩
theorem noLog (F : Heap) : FnK Tryz.prog 36 #[.pointer none] F (fun v F' => v = .int .i64 0 ∧ F' = F) := by
  have k := lgReadyNo (F := F) (v := .pointer none) (.inl rfl)
  (refine fn_walk tab_ok Tryz.func36 rfl rfl rfl rfl ?_; (conv => whnf))
  refine call_of k ?_
  rintro v F ⟨rfl, rfl⟩
  ((conv => whnf); repeat (first | (apply load_at; (conv => lhs; whnf); (with_reducible assumption); rfl; (conv => whnf)) | (apply load_at; (conv => lhs; rw [add_plain, add_plain]); (with_reducible assumption); rfl; (conv => whnf)) | (apply loads_at; (conv => lhs; whnf); (with_reducible assumption); rfl; (conv => whnf)) | (refine ⟨⟨by omega, by omega⟩, ?_⟩; (conv => whnf))))
  exact ⟨rfl, rfl⟩
theorem noNew (F : Heap) : FnK Tryz.prog 15 #[.pointer none] F (fun v F' => v = .tuple #[.pointer none, .int .i64 1] ∧ F' = F) := by
  have k := noLog F
  (refine fn_walk tab_ok Tryz.func15 rfl rfl rfl rfl ?_; (conv => whnf))
  refine call_of k ?_
  rintro v F ⟨rfl, rfl⟩
  ((conv => whnf); repeat (first | (apply load_at; (conv => lhs; whnf); (with_reducible assumption); rfl; (conv => whnf)) | (apply load_at; (conv => lhs; rw [add_plain, add_plain]); (with_reducible assumption); rfl; (conv => whnf)) | (apply loads_at; (conv => lhs; whnf); (with_reducible assumption); rfl; (conv => whnf)) | (refine ⟨⟨by omega, by omega⟩, ?_⟩; (conv => whnf))))
  exact ⟨rfl, rfl⟩
theorem law : LawK := by
  intro F hN i w
  have n0 : ∀ F, PgNo F (.pointer none) := fun F => .inl rfl
  (refine fn_walk tab_ok Tryz.func4 rfl rfl rfl rfl ?_; (conv => whnf))
  refine new_step (.cells #[.pointer none, .map none] 45) rfl fun z h0_z => ?_
  have hE_z := Ext.new h0_z (.cells #[.pointer none, .map none] 45)
  have hB_z := Heap.put_same F z (.cells #[.pointer none, .map none] 45)
  generalize F.put z _ = F1 at hE_z hB_z ⊢
  have nz : PgNo F1 (.pointer (some ⟨z, 0, none⟩)) := .inr ⟨z, _, rfl, hB_z⟩
  ((conv => whnf); repeat (first | (apply load_at; (conv => lhs; whnf); (with_reducible assumption); rfl; (conv => whnf)) | (apply load_at; (conv => lhs; rw [add_plain, add_plain]); (with_reducible assumption); rfl; (conv => whnf)) | (apply loads_at; (conv => lhs; whnf); (with_reducible assumption); rfl; (conv => whnf)) | (refine ⟨⟨by omega, by omega⟩, ?_⟩; (conv => whnf))))
  refine call_of (noGet (n0 F1) i) ?_
  rintro v F1 ⟨rfl, rfl⟩
  refine short [0, 3, 4, 14] [.int .i64 i, .pointer none, .pointer (some ⟨z, 0, none⟩), .tuple #[.slice none 0 0, .int .i64 2]] rfl fun ρ => ?_
  ((conv => whnf); repeat (first | (apply load_at; (conv => lhs; whnf); (with_reducible assumption); rfl; (conv => whnf)) | (apply load_at; (conv => lhs; rw [add_plain, add_plain]); (with_reducible assumption); rfl; (conv => whnf)) | (apply loads_at; (conv => lhs; whnf); (with_reducible assumption); rfl; (conv => whnf)) | (refine ⟨⟨by omega, by omega⟩, ?_⟩; (conv => whnf))))
  refine call_of (noGet nz i) ?_
  rintro v F1 ⟨rfl, rfl⟩
  refine short [0, 3, 4, 6, 19] [.int .i64 i, .pointer none, .pointer (some ⟨z, 0, none⟩), .int .i64 2, .tuple #[.slice none 0 0, .int .i64 2]] rfl fun ρ => ?_
  ((conv => whnf); repeat (first | (apply load_at; (conv => lhs; whnf); (with_reducible assumption); rfl; (conv => whnf)) | (apply load_at; (conv => lhs; rw [add_plain, add_plain]); (with_reducible assumption); rfl; (conv => whnf)) | (apply loads_at; (conv => lhs; whnf); (with_reducible assumption); rfl; (conv => whnf)) | (refine ⟨⟨by omega, by omega⟩, ?_⟩; (conv => whnf))))
  refine call_of (noNew F1) ?_
  rintro v F1 ⟨rfl, rfl⟩
  refine short [0, 3, 4, 6, 8, 23] [.int .i64 i, .pointer none, .pointer (some ⟨z, 0, none⟩), .int .i64 2, .int .i64 2, .tuple #[.pointer none, .int .i64 1]] rfl fun ρ => ?_
  ((conv => whnf); repeat (first | (apply load_at; (conv => lhs; whnf); (with_reducible assumption); rfl; (conv => whnf)) | (apply load_at; (conv => lhs; rw [add_plain, add_plain]); (with_reducible assumption); rfl; (conv => whnf)) | (apply loads_at; (conv => lhs; whnf); (with_reducible assumption); rfl; (conv => whnf)) | (refine ⟨⟨by omega, by omega⟩, ?_⟩; (conv => whnf))))
  refine call_of (noAbort (n0 F1)) ?_
  rintro v F1 ⟨rfl, rfl⟩
  refine short [0, 3, 4, 6, 8, 9, 10, 27] [.int .i64 i, .pointer none, .pointer (some ⟨z, 0, none⟩), .int .i64 2, .int .i64 2, .pointer none, .int .i64 1, .tuple #[]] rfl fun ρ => ?_
  ((conv => whnf); repeat (first | (apply load_at; (conv => lhs; whnf); (with_reducible assumption); rfl; (conv => whnf)) | (apply load_at; (conv => lhs; rw [add_plain, add_plain]); (with_reducible assumption); rfl; (conv => whnf)) | (apply loads_at; (conv => lhs; whnf); (with_reducible assumption); rfl; (conv => whnf)) | (refine ⟨⟨by omega, by omega⟩, ?_⟩; (conv => whnf))))
  refine call_of (noAbort nz) ?_
  rintro v F1 ⟨rfl, rfl⟩
  refine short [0, 3, 4, 6, 8, 9, 10, 28] [.int .i64 i, .pointer none, .pointer (some ⟨z, 0, none⟩), .int .i64 2, .int .i64 2, .pointer none, .int .i64 1, .tuple #[]] rfl fun ρ => ?_
  ((conv => whnf); repeat (first | (apply load_at; (conv => lhs; whnf); (with_reducible assumption); rfl; (conv => whnf)) | (apply load_at; (conv => lhs; rw [add_plain, add_plain]); (with_reducible assumption); rfl; (conv => whnf)) | (apply loads_at; (conv => lhs; whnf); (with_reducible assumption); rfl; (conv => whnf)) | (refine ⟨⟨by omega, by omega⟩, ?_⟩; (conv => whnf))))
  refine call_of (noSet (n0 F1) i) ?_
  rintro v F1 ⟨rfl, rfl⟩
  refine short [3, 4, 43, 46] [.pointer none, .pointer (some ⟨z, 0, none⟩), .bool true, .int .i64 2] rfl fun ρ => ?_
  ((conv => whnf); repeat (first | (apply load_at; (conv => lhs; whnf); (with_reducible assumption); rfl; (conv => whnf)) | (apply load_at; (conv => lhs; rw [add_plain, add_plain]); (with_reducible assumption); rfl; (conv => whnf)) | (apply loads_at; (conv => lhs; whnf); (with_reducible assumption); rfl; (conv => whnf)) | (refine ⟨⟨by omega, by omega⟩, ?_⟩; (conv => whnf))))
  refine call_of (noCommit nz) ?_
  rintro v F1 ⟨rfl, rfl⟩
  refine short [3, 4, 49, 50] [.pointer none, .pointer (some ⟨z, 0, none⟩), .bool true, .int .i64 2] rfl fun ρ => ?_
  ((conv => whnf); repeat (first | (apply load_at; (conv => lhs; whnf); (with_reducible assumption); rfl; (conv => whnf)) | (apply load_at; (conv => lhs; rw [add_plain, add_plain]); (with_reducible assumption); rfl; (conv => whnf)) | (apply loads_at; (conv => lhs; whnf); (with_reducible assumption); rfl; (conv => whnf)) | (refine ⟨⟨by omega, by omega⟩, ?_⟩; (conv => whnf))))
  refine call_of (noChanged (n0 F1)) ?_
  rintro v F1 ⟨rfl, rfl⟩
  refine short [4, 53, 55] [.pointer (some ⟨z, 0, none⟩), .bool true, .slice none 0 0] rfl fun ρ => ?_
  ((conv => whnf); repeat (first | (apply load_at; (conv => lhs; whnf); (with_reducible assumption); rfl; (conv => whnf)) | (apply load_at; (conv => lhs; rw [add_plain, add_plain]); (with_reducible assumption); rfl; (conv => whnf)) | (apply loads_at; (conv => lhs; whnf); (with_reducible assumption); rfl; (conv => whnf)) | (refine ⟨⟨by omega, by omega⟩, ?_⟩; (conv => whnf))))
  refine call_of (noPages nz) ?_
  rintro v F1 ⟨rfl, rfl⟩
  refine short [59, 60] [.bool true, .int .i64 0] rfl fun ρ => ?_
  ((conv => whnf); repeat (first | (apply load_at; (conv => lhs; whnf); (with_reducible assumption); rfl; (conv => whnf)) | (apply load_at; (conv => lhs; rw [add_plain, add_plain]); (with_reducible assumption); rfl; (conv => whnf)) | (apply loads_at; (conv => lhs; whnf); (with_reducible assumption); rfl; (conv => whnf)) | (refine ⟨⟨by omega, by omega⟩, ?_⟩; (conv => whnf))))
  refine call_of (awake7 F1 (hN.mono hE_z)) ?_
  rintro v F9 ⟨rfl, hE9⟩
  ((conv => whnf); repeat (first | (apply load_at; (conv => lhs; whnf); (with_reducible assumption); rfl; (conv => whnf)) | (apply load_at; (conv => lhs; rw [add_plain, add_plain]); (with_reducible assumption); rfl; (conv => whnf)) | (apply loads_at; (conv => lhs; whnf); (with_reducible assumption); rfl; (conv => whnf)) | (refine ⟨⟨by omega, by omega⟩, ?_⟩; (conv => whnf))))
  exact ⟨rfl, hE_z.trans hE9⟩
end Go.Proofs.YtmpiggcooboenaaGreatDoor.AlPagerNobody

/- Disks: what they are in memory, and disk's small methods; exchequerlaw03.sector. -/
import Derived.Test.YtlkdbmoocajjlaaWrd
namespace Go.Proofs.Ytlkdbmoocajjlaa.Al
open Go Go.Al Go.Proofs Go.RowKit
set_option maxHeartbeats 8000000
set_option maxRecDepth 100000
set_option linter.unusedVariables false
set_option linter.unusedSimpArgs false
/-- A disk's cells. -/
abbrev dkC (a : Bool) (l : Int) (d : Bool) (n : Int) (vm vf S : Value) (w : Int) : Array Value := #[.bool a, .int .i64 l, .bool d, .int .i64 n, vm, vf, S, .int .i64 w]
abbrev dkO (a : Bool) (l : Int) (d : Bool) (n : Int) (vm vf S : Value) (w : Int) : Obj := .cells (dkC a l d n vm vf S w) 65
/-- A disk that no call made. -/
def NR (F : Heap) (v : Value) : Prop := v = .pointer none ∨ ∃ b a l d n vm vf S w, v = .pointer (some ⟨b, 0, none⟩) ∧ F b = some (dkO a l d n vm vf S w) ∧ n ≤ 0
theorem sector (x : UInt8) (F : Heap) : FnK Try.prog 29 #[.int .u8 x.toNat] F (fun v F' => NewRow F F' v (List.replicate 256 x) ∧ Ext F F') := by
  (refine fn_walk tab_ok Try.func29 rfl rfl rfl rfl ?_; (conv => whnf))
  refine new_step (.cells #[.int .u8 x.toNat] 5) rfl fun g h0_g => ?_
  have hE_g := Ext.new h0_g (.cells #[.int .u8 x.toNat] 5)
  have hB_g := Heap.put_same F g (.cells #[.int .u8 x.toNat] 5)
  generalize F.put g _ = F1 at hE_g hB_g ⊢
  (conv => whnf)
  refine call_of (repeat256 x (some ⟨g, 0, none⟩) 1 F1 ?_) ?_
  · exact row_blk hB_g
  rintro v F2 ⟨⟨A, c, rfl, h1, h2, h3⟩, hE⟩
  ((conv => whnf); repeat (first | (apply load_at; (conv => lhs; whnf); (with_reducible assumption); rfl; (conv => whnf)) | (apply load_at; (conv => lhs; rw [add_plain, add_plain]); (with_reducible assumption); rfl; (conv => whnf)) | (apply loads_at; (conv => lhs; whnf); (with_reducible assumption); rfl; (conv => whnf)) | (refine ⟨⟨by omega, by omega⟩, ?_⟩; (conv => whnf))))
  exact ⟨⟨A, c, rfl, h1, h2, fun a ha => hE_g.none (h3 a ha)⟩, hE_g.trans hE⟩
theorem ready {F : Heap} {b : Nat} {a : Bool} {l : Int} {d : Bool} {n : Int} {vm vf S : Value} {w : Int} (hb : F b = some (dkO a l d n vm vf S w)) :
    FnK Try.prog 42 #[.pointer (some ⟨b, 0, none⟩)] F (fun v F' => v = .bool (decide (n > 0)) ∧ F' = F) := by
  (refine fn_walk tab_ok Try.func42 rfl rfl rfl rfl ?_; (conv => whnf))
  ((conv => whnf); repeat (first | (apply load_at; (conv => lhs; whnf); (with_reducible assumption); rfl; (conv => whnf)) | (apply load_at; (conv => lhs; rw [add_plain, add_plain]); (with_reducible assumption); rfl; (conv => whnf)) | (apply loads_at; (conv => lhs; whnf); (with_reducible assumption); rfl; (conv => whnf)) | (refine ⟨⟨by omega, by omega⟩, ?_⟩; (conv => whnf))))
  exact ⟨rfl, rfl⟩
theorem readyNo {F : Heap} {v : Value} (h : NR F v) : FnK Try.prog 42 #[v] F (fun v F' => v = .bool false ∧ F' = F) := by
  rcases h with rfl | ⟨b, a, l, d, n, vm, vf, S, w, rfl, hb, hn⟩
  · (refine fn_walk tab_ok Try.func42 rfl rfl rfl rfl ?_; (conv => whnf))
    exact ⟨rfl, rfl⟩
  · have := ready hb
    rw [show decide (n > 0) = false from decide_eq_false (by omega)] at this
    exact this
def mayE (d : Bool) (n : Int) : Int := if n > 0 then (if d = true then 5 else 0) else 2
theorem may {F : Heap} {b : Nat} {a : Bool} {l : Int} {d : Bool} {n : Int} {vm vf S : Value} {w : Int} (hb : F b = some (dkO a l d n vm vf S w)) :
    FnK Try.prog 61 #[.pointer (some ⟨b, 0, none⟩)] F (fun v F' => v = .int .i64 (mayE d n) ∧ F' = F) := by
  have hr := ready hb
  have hm : mayE d n = if n > 0 then (if d = true then 5 else 0) else 2 := rfl
  (refine fn_walk tab_ok Try.func61 rfl rfl rfl rfl ?_; (conv => whnf))
  refine call_of hr ?_
  rintro v F2 ⟨rfl, rfl⟩
  ((conv => whnf); repeat (first | (apply load_at; (conv => lhs; whnf); (with_reducible assumption); rfl; (conv => whnf)) | (apply load_at; (conv => lhs; rw [add_plain, add_plain]); (with_reducible assumption); rfl; (conv => whnf)) | (apply loads_at; (conv => lhs; whnf); (with_reducible assumption); rfl; (conv => whnf)) | (refine ⟨⟨by omega, by omega⟩, ?_⟩; (conv => whnf))))
  refine cond_split (fun h => ?_) (fun h => ?_)
  · have h : (!decide (n > 0)) = true := h
    rw [if_neg (by simpa using h)] at hm
    ((conv => whnf); repeat (first | (apply load_at; (conv => lhs; whnf); (with_reducible assumption); rfl; (conv => whnf)) | (apply load_at; (conv => lhs; rw [add_plain, add_plain]); (with_reducible assumption); rfl; (conv => whnf)) | (apply loads_at; (conv => lhs; whnf); (with_reducible assumption); rfl; (conv => whnf)) | (refine ⟨⟨by omega, by omega⟩, ?_⟩; (conv => whnf))))
    exact ⟨congrArg (Value.int .i64) hm.symm, rfl⟩
  have h : (!decide (n > 0)) = false := h
  rw [if_pos (by simpa using h)] at hm
  ((conv => whnf); repeat (first | (apply load_at; (conv => lhs; whnf); (with_reducible assumption); rfl; (conv => whnf)) | (apply load_at; (conv => lhs; rw [add_plain, add_plain]); (with_reducible assumption); rfl; (conv => whnf)) | (apply loads_at; (conv => lhs; whnf); (with_reducible assumption); rfl; (conv => whnf)) | (refine ⟨⟨by omega, by omega⟩, ?_⟩; (conv => whnf))))
  refine cond_split (fun h => ?_) (fun h => ?_)
  · have h : d = true := h
    rw [if_pos h] at hm
    ((conv => whnf); repeat (first | (apply load_at; (conv => lhs; whnf); (with_reducible assumption); rfl; (conv => whnf)) | (apply load_at; (conv => lhs; rw [add_plain, add_plain]); (with_reducible assumption); rfl; (conv => whnf)) | (apply loads_at; (conv => lhs; whnf); (with_reducible assumption); rfl; (conv => whnf)) | (refine ⟨⟨by omega, by omega⟩, ?_⟩; (conv => whnf))))
    exact ⟨congrArg (Value.int .i64) hm.symm, rfl⟩
  · have h : d = false := h
    rw [if_neg (by rw [h]; decide)] at hm
    ((conv => whnf); repeat (first | (apply load_at; (conv => lhs; whnf); (with_reducible assumption); rfl; (conv => whnf)) | (apply load_at; (conv => lhs; rw [add_plain, add_plain]); (with_reducible assumption); rfl; (conv => whnf)) | (apply loads_at; (conv => lhs; whnf); (with_reducible assumption); rfl; (conv => whnf)) | (refine ⟨⟨by omega, by omega⟩, ?_⟩; (conv => whnf))))
    exact ⟨congrArg (Value.int .i64) hm.symm, rfl⟩
theorem mayNo {F : Heap} {v : Value} (h : NR F v) : FnK Try.prog 61 #[v] F (fun v F' => v = .int .i64 2 ∧ F' = F) := by
  have hr := readyNo h
  (refine fn_walk tab_ok Try.func61 rfl rfl rfl rfl ?_; (conv => whnf))
  refine call_of hr ?_
  rintro v F2 ⟨rfl, rfl⟩
  ((conv => whnf); repeat (first | (apply load_at; (conv => lhs; whnf); (with_reducible assumption); rfl; (conv => whnf)) | (apply load_at; (conv => lhs; rw [add_plain, add_plain]); (with_reducible assumption); rfl; (conv => whnf)) | (apply loads_at; (conv => lhs; whnf); (with_reducible assumption); rfl; (conv => whnf)) | (refine ⟨⟨by omega, by omega⟩, ?_⟩; (conv => whnf))))
  exact ⟨rfl, rfl⟩
theorem size {F : Heap} {b : Nat} {a : Bool} {l : Int} {d : Bool} {n : Int} {vm vf S : Value} {w : Int} (hb : F b = some (dkO a l d n vm vf S w)) (hn : 0 < n) :
    FnK Try.prog 16 #[.pointer (some ⟨b, 0, none⟩)] F (fun v F' => v = .int .i64 n ∧ F' = F) := by
  have hr := ready hb
  rw [show decide (n > 0) = true from decide_eq_true (by omega)] at hr
  (refine fn_walk tab_ok Try.func16 rfl rfl rfl rfl ?_; (conv => whnf))
  refine call_of hr ?_
  rintro v F2 ⟨rfl, rfl⟩
  ((conv => whnf); repeat (first | (apply load_at; (conv => lhs; whnf); (with_reducible assumption); rfl; (conv => whnf)) | (apply load_at; (conv => lhs; rw [add_plain, add_plain]); (with_reducible assumption); rfl; (conv => whnf)) | (apply loads_at; (conv => lhs; whnf); (with_reducible assumption); rfl; (conv => whnf)) | (refine ⟨⟨by omega, by omega⟩, ?_⟩; (conv => whnf))))
  exact ⟨rfl, rfl⟩
theorem sizeNo {F : Heap} {v : Value} (h : NR F v) : FnK Try.prog 16 #[v] F (fun v F' => v = .int .i64 0 ∧ F' = F) := by
  have hr := readyNo h
  (refine fn_walk tab_ok Try.func16 rfl rfl rfl rfl ?_; (conv => whnf))
  refine call_of hr ?_
  rintro v F2 ⟨rfl, rfl⟩
  ((conv => whnf); repeat (first | (apply load_at; (conv => lhs; whnf); (with_reducible assumption); rfl; (conv => whnf)) | (apply load_at; (conv => lhs; rw [add_plain, add_plain]); (with_reducible assumption); rfl; (conv => whnf)) | (apply loads_at; (conv => lhs; whnf); (with_reducible assumption); rfl; (conv => whnf)) | (refine ⟨⟨by omega, by omega⟩, ?_⟩; (conv => whnf))))
  exact ⟨rfl, rfl⟩
theorem writes {F : Heap} {b : Nat} {a : Bool} {l : Int} {d : Bool} {n : Int} {vm vf S : Value} {w : Int} (hb : F b = some (dkO a l d n vm vf S w)) (hn : 0 < n) :
    FnK Try.prog 14 #[.pointer (some ⟨b, 0, none⟩)] F (fun v F' => v = .int .i64 w ∧ F' = F) := by
  have hr := ready hb
  rw [show decide (n > 0) = true from decide_eq_true (by omega)] at hr
  (refine fn_walk tab_ok Try.func14 rfl rfl rfl rfl ?_; (conv => whnf))
  refine call_of hr ?_
  rintro v F2 ⟨rfl, rfl⟩
  ((conv => whnf); repeat (first | (apply load_at; (conv => lhs; whnf); (with_reducible assumption); rfl; (conv => whnf)) | (apply load_at; (conv => lhs; rw [add_plain, add_plain]); (with_reducible assumption); rfl; (conv => whnf)) | (apply loads_at; (conv => lhs; whnf); (with_reducible assumption); rfl; (conv => whnf)) | (refine ⟨⟨by omega, by omega⟩, ?_⟩; (conv => whnf))))
  exact ⟨rfl, rfl⟩
theorem writesNo {F : Heap} {v : Value} (h : NR F v) : FnK Try.prog 14 #[v] F (fun v F' => v = .int .i64 0 ∧ F' = F) := by
  have hr := readyNo h
  (refine fn_walk tab_ok Try.func14 rfl rfl rfl rfl ?_; (conv => whnf))
  refine call_of hr ?_
  rintro v F2 ⟨rfl, rfl⟩
  ((conv => whnf); repeat (first | (apply load_at; (conv => lhs; whnf); (with_reducible assumption); rfl; (conv => whnf)) | (apply load_at; (conv => lhs; rw [add_plain, add_plain]); (with_reducible assumption); rfl; (conv => whnf)) | (apply loads_at; (conv => lhs; whnf); (with_reducible assumption); rfl; (conv => whnf)) | (refine ⟨⟨by omega, by omega⟩, ?_⟩; (conv => whnf))))
  exact ⟨rfl, rfl⟩
theorem down {F : Heap} {b : Nat} {a : Bool} {l : Int} {d : Bool} {n : Int} {vm vf S : Value} {w : Int} (hb : F b = some (dkO a l d n vm vf S w)) (hn : 0 < n) :
    FnK Try.prog 15 #[.pointer (some ⟨b, 0, none⟩)] F (fun v F' => v = .bool d ∧ F' = F) := by
  have hr := ready hb
  rw [show decide (n > 0) = true from decide_eq_true (by omega)] at hr
  (refine fn_walk tab_ok Try.func15 rfl rfl rfl rfl ?_; (conv => whnf))
  refine call_of hr ?_
  rintro v F2 ⟨rfl, rfl⟩
  ((conv => whnf); repeat (first | (apply load_at; (conv => lhs; whnf); (with_reducible assumption); rfl; (conv => whnf)) | (apply load_at; (conv => lhs; rw [add_plain, add_plain]); (with_reducible assumption); rfl; (conv => whnf)) | (apply loads_at; (conv => lhs; whnf); (with_reducible assumption); rfl; (conv => whnf)) | (refine ⟨⟨by omega, by omega⟩, ?_⟩; (conv => whnf))))
  exact ⟨rfl, rfl⟩
theorem downNo {F : Heap} {v : Value} (h : NR F v) : FnK Try.prog 15 #[v] F (fun v F' => v = .bool false ∧ F' = F) := by
  have hr := readyNo h
  (refine fn_walk tab_ok Try.func15 rfl rfl rfl rfl ?_; (conv => whnf))
  refine call_of hr ?_
  rintro v F2 ⟨rfl, rfl⟩
  ((conv => whnf); repeat (first | (apply load_at; (conv => lhs; whnf); (with_reducible assumption); rfl; (conv => whnf)) | (apply load_at; (conv => lhs; rw [add_plain, add_plain]); (with_reducible assumption); rfl; (conv => whnf)) | (apply loads_at; (conv => lhs; whnf); (with_reducible assumption); rfl; (conv => whnf)) | (refine ⟨⟨by omega, by omega⟩, ?_⟩; (conv => whnf))))
  exact ⟨rfl, rfl⟩
theorem pendingNo {F : Heap} {v : Value} (h : NR F v) : FnK Try.prog 12 #[v] F (fun v F' => v = .slice none 0 0 ∧ F' = F) := by
  have hr := readyNo h
  (refine fn_walk tab_ok Try.func12 rfl rfl rfl rfl ?_; (conv => whnf))
  refine call_of hr ?_
  rintro v F2 ⟨rfl, rfl⟩
  ((conv => whnf); repeat (first | (apply load_at; (conv => lhs; whnf); (with_reducible assumption); rfl; (conv => whnf)) | (apply load_at; (conv => lhs; rw [add_plain, add_plain]); (with_reducible assumption); rfl; (conv => whnf)) | (apply loads_at; (conv => lhs; whnf); (with_reducible assumption); rfl; (conv => whnf)) | (refine ⟨⟨by omega, by omega⟩, ?_⟩; (conv => whnf))))
  exact ⟨rfl, rfl⟩
theorem readNo {F : Heap} {v : Value} (h : NR F v) (i : Int) : FnK Try.prog 32 #[v, .int .i64 i] F (fun v F' => v = .tuple #[.slice none 0 0, .int .i64 2] ∧ F' = F) := by
  have hr := mayNo h
  (refine fn_walk tab_ok Try.func32 rfl rfl rfl rfl ?_; (conv => whnf))
  refine call_of hr ?_
  rintro v F2 ⟨rfl, rfl⟩
  ((conv => whnf); repeat (first | (apply load_at; (conv => lhs; whnf); (with_reducible assumption); rfl; (conv => whnf)) | (apply load_at; (conv => lhs; rw [add_plain, add_plain]); (with_reducible assumption); rfl; (conv => whnf)) | (apply loads_at; (conv => lhs; whnf); (with_reducible assumption); rfl; (conv => whnf)) | (refine ⟨⟨by omega, by omega⟩, ?_⟩; (conv => whnf))))
  exact ⟨rfl, rfl⟩
theorem writeNo {F : Heap} {v : Value} (h : NR F v) (i : Int) (u : Value) : FnK Try.prog 28 #[v, .int .i64 i, u] F (fun v F' => v = .int .i64 2 ∧ F' = F) := by
  have hr := mayNo h
  (refine fn_walk tab_ok Try.func28 rfl rfl rfl rfl ?_; (conv => whnf))
  refine call_of hr ?_
  rintro v F2 ⟨rfl, rfl⟩
  ((conv => whnf); repeat (first | (apply load_at; (conv => lhs; whnf); (with_reducible assumption); rfl; (conv => whnf)) | (apply load_at; (conv => lhs; rw [add_plain, add_plain]); (with_reducible assumption); rfl; (conv => whnf)) | (apply loads_at; (conv => lhs; whnf); (with_reducible assumption); rfl; (conv => whnf)) | (refine ⟨⟨by omega, by omega⟩, ?_⟩; (conv => whnf))))
  exact ⟨rfl, rfl⟩
theorem flushNo {F : Heap} {v : Value} (h : NR F v) : FnK Try.prog 30 #[v] F (fun v F' => v = .int .i64 2 ∧ F' = F) := by
  have hr := mayNo h
  (refine fn_walk tab_ok Try.func30 rfl rfl rfl rfl ?_; (conv => whnf))
  refine call_of hr ?_
  rintro v F2 ⟨rfl, rfl⟩
  ((conv => whnf); repeat (first | (apply load_at; (conv => lhs; whnf); (with_reducible assumption); rfl; (conv => whnf)) | (apply load_at; (conv => lhs; rw [add_plain, add_plain]); (with_reducible assumption); rfl; (conv => whnf)) | (apply loads_at; (conv => lhs; whnf); (with_reducible assumption); rfl; (conv => whnf)) | (refine ⟨⟨by omega, by omega⟩, ?_⟩; (conv => whnf))))
  exact ⟨rfl, rfl⟩
theorem armNo {F : Heap} {v : Value} (h : NR F v) (i : Int) : FnK Try.prog 39 #[v, .int .i64 i] F (fun v F' => v = .tuple #[] ∧ F' = F) := by
  have hr := readyNo h
  (refine fn_walk tab_ok Try.func39 rfl rfl rfl rfl ?_; (conv => whnf))
  refine call_of hr ?_
  rintro v F2 ⟨rfl, rfl⟩
  ((conv => whnf); repeat (first | (apply load_at; (conv => lhs; whnf); (with_reducible assumption); rfl; (conv => whnf)) | (apply load_at; (conv => lhs; rw [add_plain, add_plain]); (with_reducible assumption); rfl; (conv => whnf)) | (apply loads_at; (conv => lhs; whnf); (with_reducible assumption); rfl; (conv => whnf)) | (refine ⟨⟨by omega, by omega⟩, ?_⟩; (conv => whnf))))
  exact ⟨rfl, rfl⟩
theorem NR.mono {F G : Heap} {v : Value} (h : NR F v) (hE : Ext F G) : NR G v := by
  rcases h with rfl | ⟨b, a, l, d, n, vm, vf, S, w, rfl, hb, hn⟩
  · exact .inl rfl
  · exact .inr ⟨b, a, l, d, n, vm, vf, S, w, rfl, hE _ _ hb, hn⟩
theorem crashNo {F : Heap} {v : Value} (h : NR F v) (A : Option Addr) (m c : Nat) : FnK Try.prog 31 #[v, .slice A m c] F (fun v F' => v = .tuple #[] ∧ Ext F F') := by
  (refine fn_walk tab_ok Try.func31 rfl rfl rfl rfl ?_; (conv => whnf))
  refine new_step (.cells #[.slice A m c] 32) rfl fun g h0_g => ?_
  have hE_g := Ext.new h0_g (.cells #[.slice A m c] 32)
  have hB_g := Heap.put_same F g (.cells #[.slice A m c] 32)
  generalize F.put g _ = F1 at hE_g hB_g ⊢
  have hr := readyNo (h.mono hE_g)
  ((conv => whnf); repeat (first | (apply load_at; (conv => lhs; whnf); (with_reducible assumption); rfl; (conv => whnf)) | (apply load_at; (conv => lhs; rw [add_plain, add_plain]); (with_reducible assumption); rfl; (conv => whnf)) | (apply loads_at; (conv => lhs; whnf); (with_reducible assumption); rfl; (conv => whnf)) | (refine ⟨⟨by omega, by omega⟩, ?_⟩; (conv => whnf))))
  refine call_of hr ?_
  rintro v F2 ⟨rfl, rfl⟩
  ((conv => whnf); repeat (first | (apply load_at; (conv => lhs; whnf); (with_reducible assumption); rfl; (conv => whnf)) | (apply load_at; (conv => lhs; rw [add_plain, add_plain]); (with_reducible assumption); rfl; (conv => whnf)) | (apply loads_at; (conv => lhs; whnf); (with_reducible assumption); rfl; (conv => whnf)) | (refine ⟨⟨by omega, by omega⟩, ?_⟩; (conv => whnf))))
  exact ⟨rfl, hE_g⟩
theorem there {F : Heap} {b : Nat} {a : Bool} {l : Int} {d : Bool} {n : Int} {vm vf S : Value} {w : Int} (hb : F b = some (dkO a l d n vm vf S w)) (i : Int) :
    FnK Try.prog 62 #[.pointer (some ⟨b, 0, none⟩), .int .i64 i] F (fun v F' => v = .bool (decide (0 ≤ i ∧ i < n)) ∧ F' = F) := by
  have hd : decide (0 ≤ i ∧ i < n) = (decide (i ≥ 0) && decide (i < n)) := by simp
  (refine fn_walk tab_ok Try.func62 rfl rfl rfl rfl ?_; (conv => whnf))
  refine cond_split (fun h => ?_) (fun h => ?_)
  · have h : decide (i ≥ 0) = true := h
    rw [h, Bool.true_and] at hd
    ((conv => whnf); repeat (first | (apply load_at; (conv => lhs; whnf); (with_reducible assumption); rfl; (conv => whnf)) | (apply load_at; (conv => lhs; rw [add_plain, add_plain]); (with_reducible assumption); rfl; (conv => whnf)) | (apply loads_at; (conv => lhs; whnf); (with_reducible assumption); rfl; (conv => whnf)) | (refine ⟨⟨by omega, by omega⟩, ?_⟩; (conv => whnf))))
    exact ⟨congrArg Value.bool hd.symm, rfl⟩
  · have h : decide (i ≥ 0) = false := h
    rw [h, Bool.false_and] at hd
    ((conv => whnf); repeat (first | (apply load_at; (conv => lhs; whnf); (with_reducible assumption); rfl; (conv => whnf)) | (apply load_at; (conv => lhs; rw [add_plain, add_plain]); (with_reducible assumption); rfl; (conv => whnf)) | (apply loads_at; (conv => lhs; whnf); (with_reducible assumption); rfl; (conv => whnf)) | (refine ⟨⟨by omega, by omega⟩, ?_⟩; (conv => whnf))))
    exact ⟨congrArg Value.bool hd.symm, rfl⟩
/-- One write more: whether there is still one, and what is then. -/
def burnOk (a : Bool) (l : Int) : Bool := !a || l != 0
theorem burn {F : Heap} {b : Nat} {a : Bool} {l : Int} {d : Bool} {n : Int} {vm vf S : Value} {w : Int} (hb : F b = some (dkO a l d n vm vf S w)) (hl : 0 ≤ l) (hl' : l ≤ 9223372036854775807) :
    FnK Try.prog 63 #[.pointer (some ⟨b, 0, none⟩)] F (fun v F' => v = .bool (burnOk a l) ∧ ((burnOk a l = true ∧ F' = F.put b (dkO a (if a = true then l - 1 else l) d n vm vf S w)) ∨ (burnOk a l = false ∧ F' = F.put b (dkO a l true n vm vf S w)))) := by
  have hbo : burnOk a l = (!a || l != 0) := rfl
  have hw := fun h : l ≠ 0 => wrap_eq (x := l - 1) (by omega) (by omega)
  (refine fn_walk tab_ok Try.func63 rfl rfl rfl rfl ?_; (conv => whnf))
  ((conv => whnf); repeat (first | (apply load_at; (conv => lhs; whnf); (with_reducible assumption); rfl; (conv => whnf)) | (apply load_at; (conv => lhs; rw [add_plain, add_plain]); (with_reducible assumption); rfl; (conv => whnf)) | (apply loads_at; (conv => lhs; whnf); (with_reducible assumption); rfl; (conv => whnf)) | (refine ⟨⟨by omega, by omega⟩, ?_⟩; (conv => whnf))))
  refine cond_split (fun h => ?_) (fun h => ?_)
  · have h : (!a) = true := h
    have ha : a = false := by simpa using h
    subst ha
    ((conv => whnf); repeat (first | (apply load_at; (conv => lhs; whnf); (with_reducible assumption); rfl; (conv => whnf)) | (apply load_at; (conv => lhs; rw [add_plain, add_plain]); (with_reducible assumption); rfl; (conv => whnf)) | (apply loads_at; (conv => lhs; whnf); (with_reducible assumption); rfl; (conv => whnf)) | (refine ⟨⟨by omega, by omega⟩, ?_⟩; (conv => whnf))))
    refine ⟨congrArg Value.bool hbo.symm, .inl ⟨hbo, ?_⟩⟩
    funext c
    by_cases e : c = b
    · subst e; rw [Heap.put_same]; exact hb
    · rw [Heap.put_other _ _ e]
  have h : (!a) = false := h
  have ha : a = true := by simpa using h
  subst ha
  ((conv => whnf); repeat (first | (apply load_at; (conv => lhs; whnf); (with_reducible assumption); rfl; (conv => whnf)) | (apply load_at; (conv => lhs; rw [add_plain, add_plain]); (with_reducible assumption); rfl; (conv => whnf)) | (apply loads_at; (conv => lhs; whnf); (with_reducible assumption); rfl; (conv => whnf)) | (refine ⟨⟨by omega, by omega⟩, ?_⟩; (conv => whnf))))
  refine cond_split (fun h => ?_) (fun h => ?_)
  · have h : (l == 0) = true := h
    have hl0 : l = 0 := by simpa using h
    have hbo : burnOk true l = false := by rw [hbo, hl0]; rfl
    ((conv => whnf); repeat (first | (apply load_at; (conv => lhs; whnf); (with_reducible assumption); rfl; (conv => whnf)) | (apply load_at; (conv => lhs; rw [add_plain, add_plain]); (with_reducible assumption); rfl; (conv => whnf)) | (apply loads_at; (conv => lhs; whnf); (with_reducible assumption); rfl; (conv => whnf)) | (refine ⟨⟨by omega, by omega⟩, ?_⟩; (conv => whnf))))
    refine store_step b 2 _ (dkC true l true n vm vf S w) rfl hb rfl rfl (.inl (Nat.le_refl 0)) (one_bool _) ?_
    ((conv => whnf); repeat (first | (apply load_at; (conv => lhs; whnf); (with_reducible assumption); rfl; (conv => whnf)) | (apply load_at; (conv => lhs; rw [add_plain, add_plain]); (with_reducible assumption); rfl; (conv => whnf)) | (apply loads_at; (conv => lhs; whnf); (with_reducible assumption); rfl; (conv => whnf)) | (refine ⟨⟨by omega, by omega⟩, ?_⟩; (conv => whnf))))
    exact ⟨congrArg Value.bool hbo.symm, .inr ⟨hbo, rfl⟩⟩
  · have h : (l == 0) = false := h
    have hl0 : l ≠ 0 := by simpa using h
    have hbo : burnOk true l = true := by rw [hbo]; simpa using hl0
    ((conv => whnf); repeat (first | (apply load_at; (conv => lhs; whnf); (with_reducible assumption); rfl; (conv => whnf)) | (apply load_at; (conv => lhs; rw [add_plain, add_plain]); (with_reducible assumption); rfl; (conv => whnf)) | (apply loads_at; (conv => lhs; whnf); (with_reducible assumption); rfl; (conv => whnf)) | (refine ⟨⟨by omega, by omega⟩, ?_⟩; (conv => whnf))))
    refine store_step b 1 _ (dkC true (IntKind.i64.wrap (l - 1)) d n vm vf S w) rfl hb rfl rfl (.inl (Nat.le_refl 0)) (one_int _ _) ?_
    ((conv => whnf); repeat (first | (apply load_at; (conv => lhs; whnf); (with_reducible assumption); rfl; (conv => whnf)) | (apply load_at; (conv => lhs; rw [add_plain, add_plain]); (with_reducible assumption); rfl; (conv => whnf)) | (apply loads_at; (conv => lhs; whnf); (with_reducible assumption); rfl; (conv => whnf)) | (refine ⟨⟨by omega, by omega⟩, ?_⟩; (conv => whnf))))
    refine ⟨congrArg Value.bool hbo.symm, .inl ⟨hbo, ?_⟩⟩
    rw [hw hl0]
    rfl
theorem arm {F : Heap} {b : Nat} {a : Bool} {l : Int} {d : Bool} {n : Int} {vm vf S : Value} {w : Int} (hb : F b = some (dkO a l d n vm vf S w)) (hn : 0 < n) (i : Int) :
    FnK Try.prog 39 #[.pointer (some ⟨b, 0, none⟩), .int .i64 i] F (fun v F' => v = .tuple #[] ∧ F' = F.put b (dkO (decide (i ≥ 0)) (max i 0) d n vm vf S w)) := by
  have hr := ready hb
  rw [show decide (n > 0) = true from decide_eq_true (by omega)] at hr
  have hmx : (if 0 > i then 0 else i) = max i 0 := by omega
  (refine fn_walk tab_ok Try.func39 rfl rfl rfl rfl ?_; (conv => whnf))
  refine call_of hr ?_
  rintro v F2 ⟨rfl, rfl⟩
  ((conv => whnf); repeat (first | (apply load_at; (conv => lhs; whnf); (with_reducible assumption); rfl; (conv => whnf)) | (apply load_at; (conv => lhs; rw [add_plain, add_plain]); (with_reducible assumption); rfl; (conv => whnf)) | (apply loads_at; (conv => lhs; whnf); (with_reducible assumption); rfl; (conv => whnf)) | (refine ⟨⟨by omega, by omega⟩, ?_⟩; (conv => whnf))))
  refine store_step b 0 _ (dkC (decide (i ≥ 0)) l d n vm vf S w) rfl hb rfl rfl (.inl (Nat.le_refl 0)) (one_bool _) ?_
  have hb2 := Heap.put_same F2 b (dkO (decide (i ≥ 0)) l d n vm vf S w)
  ((conv => whnf); repeat (first | (apply load_at; (conv => lhs; whnf); (with_reducible assumption); rfl; (conv => whnf)) | (apply load_at; (conv => lhs; rw [add_plain, add_plain]); (with_reducible assumption); rfl; (conv => whnf)) | (apply loads_at; (conv => lhs; whnf); (with_reducible assumption); rfl; (conv => whnf)) | (refine ⟨⟨by omega, by omega⟩, ?_⟩; (conv => whnf))))
  refine store_step b 1 _ (dkC (decide (i ≥ 0)) (max i 0) d n vm vf S w) rfl hb2 ?_ rfl (.inl (Nat.le_refl 0)) (one_int _ _) ?_
  · exact (rfl : _ = dkC (decide (i ≥ 0)) (if 0 > i then 0 else i) d n vm vf S w).trans (congrArg (fun z => dkC (decide (i ≥ 0)) z d n vm vf S w) hmx)
  ((conv => whnf); repeat (first | (apply load_at; (conv => lhs; whnf); (with_reducible assumption); rfl; (conv => whnf)) | (apply load_at; (conv => lhs; rw [add_plain, add_plain]); (with_reducible assumption); rfl; (conv => whnf)) | (apply loads_at; (conv => lhs; whnf); (with_reducible assumption); rfl; (conv => whnf)) | (refine ⟨⟨by omega, by omega⟩, ?_⟩; (conv => whnf))))
  exact ⟨rfl, Heap.put_put _ _ _ _⟩
end Go.Proofs.Ytlkdbmoocajjlaa.Al

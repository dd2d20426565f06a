/- Contracts of functions of Go's library that many laws reach: bytes.Clone, slices.Clone, bytes.Equal, slices.Equal, slices.Index, slices.Contains (of ints), bytes.Repeat of one byte 256 times; over what is known of memory. -/
import Derived.Test.YtlkdbmoocajjlaaAlTerr
import Derived.Test.YtlkdbmoocajjlaaAlMake
import Derived.Test.YtlkdbmoocajjlaaAlTab
import Derived.Lib.MakeNoZero
import Derived.Laws.IdiomCopy
namespace Go.Proofs.Ytlkdbmoocajjlaa.Al
open Go Go.Al Go.Proofs Go.RowKit
set_option maxHeartbeats 8000000
set_option maxRecDepth 100000
set_option linter.unusedVariables false
set_option linter.unusedSimpArgs false
theorem hone_bytes (l : List UInt8) : ∀ v ∈ bytesOf l, v.oneCell' = true := fun v hv => by
  obtain ⟨x, _, rfl⟩ := List.mem_map.1 hv
  rfl
theorem hone_ints (l : List Int) : ∀ v ∈ l.map (Value.int .i64), v.oneCell' = true := fun v hv => by
  obtain ⟨x, _, rfl⟩ := List.mem_map.1 hv
  rfl
theorem bytes_len (l : List UInt8) : (bytesOf l).length = l.length := by simp [bytesOf]
theorem bytes_app (l k : List UInt8) : bytesOf (l ++ k) = bytesOf l ++ bytesOf k := by simp [bytesOf]
theorem clone (x : List UInt8) (A : Option Addr) (c : Nat) (F : Heap) (hr : RowAt F A (bytesOf x)) (hl : x.length ≤ 900000) : FnK Try.prog 49 #[.slice A x.length c] F (fun v F' => Mine F F' v 5 1 x.length (bytesOf x)) := by
  (refine fn_walk tab_ok Try.func49 rfl rfl rfl rfl ?_; (conv => whnf))
  cases A with
  | none =>
    have hx : x = [] := by
      cases x with
      | nil => rfl
      | cons y x => obtain ⟨a, h, _⟩ := hr 0 (.int .u8 y.toNat) rfl; cases h
    subst hx
    (conv => whnf)
    exact Mine.nil _ _ _ _ (Ext.refl F)
  | some ad =>
    (conv => whnf)
    refine new_step (.cells #[] 5) rfl fun g hg => ?_
    have hm : Mine F (F.put g (.cells #[] 5)) (.slice (some ⟨g, 0, none⟩) 0 0) 5 1 0 [] := ⟨⟨rfl, .inr ⟨g, 0, #[], rfl, Live.put _ _ _ _, rfl, Nat.le_refl 0, rfl⟩⟩, fun b hb => (by obtain rfl : g = b := Option.some.inj hb; exact hg), Ext.new hg _⟩
    generalize F.put g _ = F1 at hm ⊢
    (conv => whnf)
    refine append_mine tab_ok rfl rfl rfl rfl rfl ⟨_, rfl, fun k h => by cases h⟩ ⟨_, rfl, rfl⟩ (by decide) hm (m := x.length) (ys := bytesOf x) (y := .slice (some ad) x.length c) ⟨by simp [bytesOf], .inl ⟨_, _, rfl, hr.mono hm.ext⟩⟩ (hone_bytes x) (by show 2 * (0 + x.length) * 1 ≤ _; omega) fun s' F2 h1 _ => ?_
    (conv => whnf)
    rw [List.nil_append, Nat.zero_add] at h1
    exact h1
theorem cloneInts (x : List Int) (A : Option Addr) (c : Nat) (F : Heap) (hr : RowAt F A (x.map (.int .i64))) (hl : x.length ≤ 1000000000) : FnK Try.prog 43 #[.slice A x.length c] F (fun v F' => Mine F F' v 3 1 x.length (x.map (.int .i64))) := by
  (refine fn_walk tab_ok Try.func43 rfl rfl rfl rfl ?_; (conv => whnf))
  cases A with
  | none =>
    have hx : x = [] := by
      cases x with
      | nil => rfl
      | cons y x => obtain ⟨a, h, _⟩ := hr 0 (.int .i64 y) rfl; cases h
    subst hx
    (conv => whnf)
    exact Mine.nil _ _ _ _ (Ext.refl F)
  | some ad =>
    (conv => whnf)
    refine new_step (.cells #[] 3) rfl fun g hg => ?_
    have hm : Mine F (F.put g (.cells #[] 3)) (.slice (some ⟨g, 0, none⟩) 0 0) 3 1 0 [] := ⟨⟨rfl, .inr ⟨g, 0, #[], rfl, Live.put _ _ _ _, rfl, Nat.le_refl 0, rfl⟩⟩, fun b hb => (by obtain rfl : g = b := Option.some.inj hb; exact hg), Ext.new hg _⟩
    generalize F.put g _ = F1 at hm ⊢
    (conv => whnf)
    refine append_mine tab_ok rfl rfl rfl rfl rfl ⟨_, rfl, fun k h => by cases h⟩ ⟨_, rfl, rfl⟩ (by decide) hm (m := x.length) (ys := x.map (.int .i64)) (y := .slice (some ad) x.length c) ⟨by simp, .inl ⟨_, _, rfl, hr.mono hm.ext⟩⟩ (hone_ints x) (by show 2 * (0 + x.length) * 8 ≤ _; omega) fun s' F2 h1 _ => ?_
    (conv => whnf)
    rw [List.nil_append, Nat.zero_add] at h1
    exact h1
theorem str_beq (a b : List UInt8) : ((⟨a.toArray⟩ : ByteArray).toList == (⟨b.toArray⟩ : ByteArray).toList) = (a == b) := by
  have : ∀ c : List UInt8, (⟨c.toArray⟩ : ByteArray).toList = c := fun c => by rw [ByteArray.toList_eq]
  rw [this, this]
theorem bytesEqual (x y : List UInt8) (A B : Option Addr) (c e : Nat) (F : Heap) (hx : RowAt F A (bytesOf x)) (hy : RowAt F B (bytesOf y)) :
    FnK Try.prog 37 #[.slice A x.length c, .slice B y.length e] F (fun v F' => v = .bool (x == y) ∧ F' = F) := by
  have hq := str_beq x y
  (refine fn_walk tab_ok Try.func37 rfl rfl rfl rfl ?_; (conv => whnf))
  refine conv_str tab_ok x rfl rfl rfl rfl rfl hx ?_
  (conv => whnf)
  refine conv_str tab_ok y rfl rfl rfl rfl rfl hy ?_
  (conv => whnf)
  exact ⟨congrArg Value.bool hq, rfl⟩
/-- Where a number stands. -/
def idxI (l : List Int) (n : Int) (i : Nat) : Int := match l with | [] => -1 | x :: l => if n = x then (i : Int) else idxI l n (i + 1)
theorem idxI_cons (x : Int) (l : List Int) (n : Int) (i : Nat) : idxI (x :: l) n i = if n = x then (i : Int) else idxI l n (i + 1) := rfl
theorem idxI_ge (l : List Int) (n : Int) (i : Nat) : decide (idxI l n i ≥ 0) = decide (n ∈ l) := by
  induction l generalizing i with
  | nil => show decide ((-1 : Int) ≥ 0) = decide (n ∈ []); simp
  | cons x l ih =>
    rw [idxI_cons]
    by_cases h : n = x
    · rw [if_pos h]; simp [h]
    · rw [if_neg h, ih]; simp [h]
theorem indexInts (x : List Int) (n : Int) (A : Option Addr) (c : Nat) (F : Heap) (hr : RowAt F A (x.map (.int .i64))) (hl : x.length ≤ 900000) : FnK Try.prog 80 #[.slice A x.length c, .int .i64 n] F (fun v F' => v = .int .i64 (idxI x n 0) ∧ F' = F) := by
  (refine fn_walk tab_ok Try.func80 rfl rfl rfl rfl ?_; (conv => whnf))
  refine loop_slots [0, 1, 7, 8] (fun k vs F' => ∃ j : Nat, j + k = x.length ∧ vs = [.slice A x.length c, .int .i64 n, .int .i64 (x.length : Int), .int .i64 (j : Int)] ∧ idxI x n 0 = idxI (x.drop j) n j ∧ F' = F) x.length ⟨0, by omega, rfl, rfl, rfl⟩ ?_
  rintro k vs F2 ρ ⟨j, hjk, rfl, htk, rfl⟩
  (conv => whnf)
  refine cond_split (fun h => ?_) (fun h => ?_)
  · have hj : j < x.length := by have := of_decide_eq_true h; omega
    obtain ⟨ad, rfl⟩ := hr.some (by simp; omega)
    have hxj : x[j]? = some x[j] := List.getElem?_eq_getElem hj
    have hdr : x.drop j = x[j] :: x.drop (j + 1) := (List.drop_eq_getElem_cons hj)
    rw [hdr, idxI_cons] at htk
    generalize x[j] = y at hxj htk
    ((conv => whnf); repeat (first | (apply load_at; (conv => lhs; whnf); (with_reducible assumption); rfl; (conv => whnf)) | (apply load_at; (conv => lhs; rw [add_plain, add_plain]); (with_reducible assumption); rfl; (conv => whnf)) | (apply loads_at; (conv => lhs; whnf); (with_reducible assumption); rfl; (conv => whnf)) | (refine ⟨⟨by omega, by omega⟩, ?_⟩; (conv => whnf))))
    refine load_step (v := .int .i64 y) ?_ ?_
    · show F2.cell? (ad.add (Int.toNat (j : Int) * 1)) = _
      rw [Int.toNat_natCast, Nat.mul_one]
      exact hr.cell (by simp [hxj])
    ((conv => whnf); repeat (first | (apply load_at; (conv => lhs; whnf); (with_reducible assumption); rfl; (conv => whnf)) | (apply load_at; (conv => lhs; rw [add_plain, add_plain]); (with_reducible assumption); rfl; (conv => whnf)) | (apply loads_at; (conv => lhs; whnf); (with_reducible assumption); rfl; (conv => whnf)) | (refine ⟨⟨by omega, by omega⟩, ?_⟩; (conv => whnf))))
    refine cond_split (fun h => ?_) (fun h => ?_)
    · have h : n = y := by simpa using h
      rw [if_pos h] at htk
      ((conv => whnf); repeat (first | (apply load_at; (conv => lhs; whnf); (with_reducible assumption); rfl; (conv => whnf)) | (apply load_at; (conv => lhs; rw [add_plain, add_plain]); (with_reducible assumption); rfl; (conv => whnf)) | (apply loads_at; (conv => lhs; whnf); (with_reducible assumption); rfl; (conv => whnf)) | (refine ⟨⟨by omega, by omega⟩, ?_⟩; (conv => whnf))))
      exact ⟨congrArg (Value.int .i64) htk.symm, rfl⟩
    · have h : ¬ n = y := by
        replace h : (n == y) = false := h
        simpa using h
      rw [if_neg h] at htk
      ((conv => whnf); repeat (first | (apply load_at; (conv => lhs; whnf); (with_reducible assumption); rfl; (conv => whnf)) | (apply load_at; (conv => lhs; rw [add_plain, add_plain]); (with_reducible assumption); rfl; (conv => whnf)) | (apply loads_at; (conv => lhs; whnf); (with_reducible assumption); rfl; (conv => whnf)) | (refine ⟨⟨by omega, by omega⟩, ?_⟩; (conv => whnf))))
      refine ⟨k - 1, by omega, j + 1, by omega, ?_, htk, rfl⟩
      rw [← wrap_succ (j := j) (by omega)]
      rfl
  · have hj : j = x.length := by have := of_decide_eq_false h; omega
    subst hj
    rw [List.drop_length] at htk
    ((conv => whnf); repeat (first | (apply load_at; (conv => lhs; whnf); (with_reducible assumption); rfl; (conv => whnf)) | (apply load_at; (conv => lhs; rw [add_plain, add_plain]); (with_reducible assumption); rfl; (conv => whnf)) | (apply loads_at; (conv => lhs; whnf); (with_reducible assumption); rfl; (conv => whnf)) | (refine ⟨⟨by omega, by omega⟩, ?_⟩; (conv => whnf))))
    exact ⟨congrArg (Value.int .i64) htk.symm, rfl⟩
theorem containsInts (x : List Int) (n : Int) (A : Option Addr) (c : Nat) (F : Heap) (hr : RowAt F A (x.map (.int .i64))) (hl : x.length ≤ 900000) : FnK Try.prog 68 #[.slice A x.length c, .int .i64 n] F (fun v F' => v = .bool (decide (n ∈ x)) ∧ F' = F) := by
  have hi := idxI_ge x n 0
  have hc := indexInts x n A c F hr hl
  generalize idxI x n 0 = i at hi hc
  (refine fn_walk tab_ok Try.func68 rfl rfl rfl rfl ?_; (conv => whnf))
  refine call_of hc ?_
  rintro v F2 ⟨rfl, rfl⟩
  ((conv => whnf); repeat (first | (apply load_at; (conv => lhs; whnf); (with_reducible assumption); rfl; (conv => whnf)) | (apply load_at; (conv => lhs; rw [add_plain, add_plain]); (with_reducible assumption); rfl; (conv => whnf)) | (apply loads_at; (conv => lhs; whnf); (with_reducible assumption); rfl; (conv => whnf)) | (refine ⟨⟨by omega, by omega⟩, ?_⟩; (conv => whnf))))
  exact ⟨congrArg Value.bool hi, rfl⟩
theorem makeNoZero {F : Heap} {K : Value → Heap → Prop} (n : Nat) (x : Int) (hx : x = n) (hn : n ≤ 281474976710656) (h : ∀ g cs N, F g = none → n ≤ N → cs.size = N → K (.slice (some ⟨g, 0, none⟩) n N) (F.put g (.cells cs 5))) :
    CallK Try.prog 79 #[.int .i64 x] F K := by
  subst hx
  refine ⟨?_⟩
  have e1 : ∃ fn, Try.prog.funcs[79]? = some fn ∧ (fn.name == "runtime.NumGoroutine") = false ∧ fn.body = none ∧ Extern.findNext fn = none ∧ Extern.find fn = some (Extern.BytealgMakeNoZero.makeNoZero #[3] #[55]) := ⟨_, Try.func79, by kernel_rfl, rfl, by kernel_rfl, by kernel_rfl⟩
  obtain ⟨fn, hf, h1, h2, h3, h4⟩ := e1
  have h5 : ¬ (n : Int) < 0 := by omega
  have h6 : ¬ (n : Int) > 281474976710656 := by omega
  have hdef : Extern.BytealgMakeNoZero.makeNoZero #[3] #[55] #[.int .i64 n] =
      (do
        let .slice elem ← underlying 55 | stuck "bytealg.MakeNoZero: slice type expected"
        if (n : Int) < 0 || (n : Int) > 2 ^ 48 then runtimePanic (.error "makeslice: len out of range")
        let cap ← choose (.appendCap (n : Int).toNat 0 elem)
        askRoom cap
        let bytes ← choose (.extern "internal/bytealg.MakeNoZero.bytes" 0)
        let a ← newRow elem (Extern.BytealgMakeNoZero.digits cap bytes #[])
        pure (.slice (some a) (n : Int).toNat cap)) := rfl
  simp only [callFunc, wk_bind, wk_program, hf, h1, h2, Bool.false_eq_true, if_false, h3, h4, wk_mark, Option.isNone_none, if_true, hdef]
  rw [wk_underlying Try.underlying55]
  dsimp only
  have h7 : ((n : Int) < 0 || (n : Int) > 2 ^ 48) = false := by simp [h5]; omega
  simp only [h5, wk_bind, decide_false, Bool.false_or]
  rw [if_neg (by simp; omega)]
  simp only [wk_bind, wk_pure]
  refine wk_choose fun nc _ hch => ?_
  obtain ⟨tt, rfl⟩ := hch rfl
  have hge : n ≤ Question.cut (.appendCap (n : Int).toNat 0 5) tt := by show n ≤ n + _; omega
  generalize Question.cut (.appendCap (n : Int).toNat 0 5) tt = nc at hge
  rw [wk_askRoom]
  refine wk_choose fun bs _ _ => ?_
  simp only [newRow, wk_bind, wk_pure]
  refine fun g hg => ?_
  have hsz : (Extern.BytealgMakeNoZero.digits nc bs #[]).size = nc := by rw [Lib.size_digits]; simp
  exact h g (Extern.BytealgMakeNoZero.digits nc bs #[]) nc hg hge hsz
theorem mul64 (F : Heap) : FnK Try.prog 84 #[.int .u64 1, .int .u64 256] F (fun v F' => v = .tuple #[.int .u64 0, .int .u64 256] ∧ F' = F) := by
  (refine fn_walk tab_ok Try.func84 rfl rfl rfl rfl ?_; (conv => whnf))
  repeat (refine ⟨by decide, ?_⟩; (conv => whnf))
  exact ⟨rfl, rfl⟩
theorem mulBits (F : Heap) : FnK Try.prog 78 #[.int .u64 1, .int .u64 256] F (fun v F' => v = .tuple #[.int .u64 0, .int .u64 256] ∧ F' = F) := by
  (refine fn_walk tab_ok Try.func78 rfl rfl rfl rfl ?_; (conv => whnf))
  refine call_of (mul64 F) ?_
  rintro v F2 ⟨rfl, rfl⟩
  (conv => whnf)
  exact ⟨rfl, rfl⟩
theorem repeat256 (x : UInt8) (A : Option Addr) (c : Nat) (F : Heap) (hr : RowAt F A (bytesOf [x])) :
    FnK Try.prog 64 #[.slice A 1 c, .int .i64 256] F (fun v F' => NewRow F F' v (List.replicate 256 x) ∧ Ext F F') := by
  (refine fn_walk tab_ok Try.func64 rfl rfl rfl rfl ?_; (conv => whnf))
  refine call_of (mulBits F) ?_
  rintro v F2 ⟨rfl, rfl⟩
  ((conv => whnf); repeat (first | (apply load_at; (conv => lhs; whnf); (with_reducible assumption); rfl; (conv => whnf)) | (apply load_at; (conv => lhs; rw [add_plain, add_plain]); (with_reducible assumption); rfl; (conv => whnf)) | (apply loads_at; (conv => lhs; whnf); (with_reducible assumption); rfl; (conv => whnf)) | (refine ⟨⟨by omega, by omega⟩, ?_⟩; (conv => whnf))))
  refine makeNoZero 256 _ rfl (by decide) fun g cs N hg hN hcs => ?_
  have hE := Ext.new hg (.cells cs 5)
  have hB := Heap.put_same F2 g (.cells cs 5)
  generalize F2.put g _ = F3 at hE hB ⊢
  have hr3 := hr.mono hE
  (conv => whnf)
  refine ⟨⟨by decide, by rw [show IntKind.i64.wrap 256 = 256 by decide]; omega⟩, ?_⟩
  (conv => whnf)
  refine ⟨⟨by decide, by decide⟩, ?_⟩
  (conv => whnf)
  refine copy_to (g := g) (off := 0) (dl := 256) (dc := 256) (m := 1) (ys := bytesOf [x]) (y := .slice A 1 c) tab_ok rfl ?hp rfl rfl rfl rfl ⟨rfl, .inl ⟨_, _, rfl, hr3⟩⟩ hB (Nat.le_refl 0) (by omega) (hone_bytes [x]) ?_
  case hp => rfl
  (conv => whnf)
  refine loop_slots [7, 8, 9, 10] (fun k vs F' => ∃ (bp : Nat) (cs' : Array Value), bp + k = 256 ∧ 1 ≤ bp ∧ vs = [.int .i64 256, .int .i64 256, .slice (some ⟨g, 0, none⟩) 256 256, .int .i64 (bp : Int)] ∧ F' g = some (.cells cs' 5) ∧ cs'.size = N ∧ cs'.toList.take bp = bytesOf (List.replicate bp x) ∧ Ext F2 F') 255 ?_ ?_
  · refine ⟨1, _, rfl, Nat.le_refl 1, ?_, Heap.put_same _ _ _, ?_, ?_, hE.put hg _⟩
    · rfl
    · rw [List.size_toArray, length_putL, Array.length_toList, hcs]
    · exact putL_take (vs := bytesOf [x]) (off := 0) (by show 0 + 1 ≤ cs.toList.length; rw [Array.length_toList, hcs]; omega)
  rintro k vs F4 ρ ⟨bp, cs', hbk, hbp, rfl, hB4, hcs', htk, hE4⟩
  (conv => whnf)
  refine cond_split (fun h => ?_) (fun h => ?_)
  · have hlt : bp < 256 := by
      have : (bp : Int) < 256 := of_decide_eq_true h
      omega
    (conv => whnf)
    refine draw_walk tab_ok (by kernel_rfl) [0, 1, 2, 3, 4, 5, 6, 7, 8, 9] (by kernel_rfl) ?_
    (conv => whnf)
    refine ⟨⟨by omega, by omega⟩, ?_⟩
    (conv => whnf)
    refine ⟨⟨by omega, ?hb⟩, ?_⟩
    case hb => split <;> omega
    (conv => whnf)
    refine copy_to (g := g) (off := bp) (dl := 256 - bp) (dc := 256 - bp) (m := bp) (ys := bytesOf (List.replicate bp x)) (y := .slice (some ⟨g, 0, none⟩) bp 256) tab_ok rfl ?hp ?hq rfl rfl rfl ⟨by simp [bytesOf], .inl ⟨_, _, rfl, by rw [← htk]; exact (row_blk hB4).take bp⟩⟩ hB4 (Nat.le_refl 0) (by omega) (hone_bytes _) ?_
    case hp =>
      conv => lhs; whnf
      refine slice_eq ?_ (by omega) (by omega)
      rw [if_neg (by omega), Int.toNat_natCast]
      show some (Addr.add ⟨g, 0, none⟩ (bp * 1)) = _
      rw [add_plain, Nat.zero_add, Nat.mul_one]
    case hq =>
      conv => lhs; whnf
      refine slice_eq rfl ?_ rfl
      rw [if_neg (by omega)]
      omega
    have hmb : min bp (256 - bp) ≤ bp := by omega
    have hle : bp + min bp (256 - bp) ≤ 256 := by omega
    have hpos : 1 ≤ min bp (256 - bp) := by omega
    generalize min bp (256 - bp) = mn at hle hpos hmb ⊢
    (conv => whnf)
    refine ⟨256 - (bp + mn), by omega, bp + mn, _, by omega, by omega, ?_, Heap.put_same _ _ _, ?_, ?_, hE4.put hg _⟩
    · show [Value.int .i64 256, .int .i64 256, .slice (some ⟨g, 0, none⟩) 256 256, .int .i64 (IntKind.i64.wrap ((bp : Int) + (mn : Int)))] = _
      rw [wrap_eq (by omega) (by omega)]
      rfl
    · rw [List.size_toArray, length_putL, Array.length_toList, hcs']
    · have hlen : (List.take mn (bytesOf (List.replicate bp x))).length = mn := by simp [bytesOf]; omega
      have := putL_take (vs := List.take mn (bytesOf (List.replicate bp x))) (cs := cs'.toList) (off := bp) (by rw [hlen, Array.length_toList, hcs']; omega)
      rw [hlen, htk] at this
      rw [List.toList_toArray, this]
      unfold bytesOf
      rw [← List.map_take, ← List.map_append, List.take_replicate, List.replicate_append_replicate, Nat.min_eq_left hmb]
  · have hlt : bp = 256 := by
      have : ¬ (bp : Int) < 256 := of_decide_eq_false h
      omega
    subst hlt
    (conv => whnf)
    refine ⟨⟨some ⟨g, 0, none⟩, 256, rfl, Nat.le_refl _, ?_, fun a ha => by obtain rfl := Option.some.inj ha; exact hg⟩, hE4⟩
    rw [← htk]
    exact (row_blk hB4).take 256
end Go.Proofs.Ytlkdbmoocajjlaa.Al

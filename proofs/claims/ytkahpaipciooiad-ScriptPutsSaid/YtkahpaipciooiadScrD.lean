/- The contract of script.code, over what is known of memory. -/
import Derived.Test.YtkahpaipciooiadScrC
namespace Go.Proofs.Ytkahpaipciooiad.Al
open Go Go.Al Go.Proofs Go.RowKit
set_option maxHeartbeats 8000000
set_option maxRecDepth 100000
set_option linter.unusedVariables false
set_option linter.unusedSimpArgs false
theorem wrap_byte (z : Int) : IntKind.u8.wrap z = ((byteAt z 0).toNat : Int) := by
  rw [u8_wrap, byteAt_int z 0 (by decide)]
  simp
def headC (e : ED) : List UInt8 := putM 2 (putM 2 [byteAt e.k 0] e.n) (e.bs.length : Int) ++ (e.bs ++ [byteAt (e.ks.length : Int) 0])
/-- An event's bytes. -/
def codeB (e : ED) : List UInt8 := putAllM 2 (headC e) e.ks
theorem headC_len (e : ED) : (headC e).length ≤ 6 + e.bs.length := by
  unfold headC
  have h1 := putM_len 2 [byteAt e.k 0] e.n
  have h2 := putM_len 2 (putM 2 [byteAt e.k 0] e.n) (e.bs.length : Int)
  rw [List.length_append, List.length_append]
  simp only [List.length_cons, List.length_nil] at h1 ⊢
  omega
theorem row1 {F : Heap} {g : Nat} {y : UInt8} (h : F g = some (.cells (bytesOf [y]).toArray 5)) : RowAt F (some ⟨g, 0, none⟩) (bytesOf [y]) := fun j v hj => ⟨_, rfl, by
  rw [add_plain, Heap.cell_at h, Nat.zero_add, ← Array.getElem?_toList]
  exact hj⟩
theorem code (k n : Int) (bs : List UInt8) (ks : List Int) (A : Option Addr) (c : Nat) (B : Option Addr) (cc : Nat) (F : Heap) (ha : RowAt F A (bytesOf bs)) (hr : RowAt F B (ks.map (.int .i64))) (hb5 : bs.length ≤ 5000) (hl : ks.length ≤ 1000) :
    FnK Try.prog 58 #[.agg (evC k n (.slice A bs.length c) (.slice B ks.length cc))] F (fun v F' => Mine F F' v 5 1 (codeB ⟨k, n, bs, ks⟩).length (bytesOf (codeB ⟨k, n, bs, ks⟩))) := by
  have hcb : codeB ⟨k, n, bs, ks⟩ = putAllM 2 (putM 2 (putM 2 [byteAt k 0] n) (bs.length : Int) ++ (bs ++ [byteAt (ks.length : Int) 0])) ks := rfl
  have hhl := headC_len ⟨k, n, bs, ks⟩
  change (putM 2 (putM 2 [byteAt k 0] n) (bs.length : Int) ++ (bs ++ [byteAt (ks.length : Int) 0])).length ≤ 6 + bs.length at hhl
  have w0 := wrap_byte k
  have w1 := wrap_byte (ks.length : Int)
  have l1 := putM_len 2 [byteAt k 0] n
  have l2 := putM_len 2 (putM 2 [byteAt k 0] n) (bs.length : Int)
  generalize codeB ⟨k, n, bs, ks⟩ = cb at hcb ⊢
  generalize byteAt k 0 = y0 at w0 hcb hhl l1 l2
  generalize byteAt (ks.length : Int) 0 = y1 at w1 hcb hhl
  simp only [List.length_cons, List.length_nil] at l1
  (refine fn_walk tab_ok Try.func58 rfl rfl rfl rfl ?_; (conv => whnf))
  refine new_step (evO k n (.slice A bs.length c) (.slice B ks.length cc)) rfl fun b hb => ?_
  have hE := Ext.new hb (evO k n (.slice A bs.length c) (.slice B ks.length cc))
  have hB := Heap.put_same F b (evO k n (.slice A bs.length c) (.slice B ks.length cc))
  generalize F.put b _ = F1 at hE hB ⊢
  (conv => whnf)
  refine load_blk hB rfl rfl ?_
  (conv => whnf)
  refine new_step (.cells (bytesOf [y0]).toArray 5) (congrArg (fun z => Obj.cells #[Value.int .u8 z] 5) w0) fun u hu => ?_
  have hX := Ext.new hu (.cells (bytesOf [y0]).toArray 5)
  have hU := Heap.put_same F1 u (.cells (bytesOf [y0]).toArray 5)
  replace hB := hX _ _ hB
  replace hE := hE.trans hX
  generalize F1.put u _ = F2 at hU hB hE ⊢
  (conv => whnf)
  refine load_blk hB rfl rfl ?_
  (conv => whnf)
  refine call_of (putG 2 (.inr (.inl rfl)) [y0] (some ⟨u, 0, none⟩) 1 n F2 (row1 hU) (by simp)) ?_
  rintro s1 F3 M1
  replace hB := M1.ext _ _ hB
  replace M1 := M1.down hE
  obtain ⟨A1, c1, rfl, _, R1⟩ := M1.own.row
  generalize hp1 : putM 2 [y0] n = p1 at M1 R1 hcb hhl l1 l2
  (conv => whnf)
  refine load_blk hB rfl rfl ?_
  (conv => whnf)
  refine call_of (putG 2 (.inr (.inl rfl)) p1 A1 c1 (bs.length : Int) F3 R1 (by omega)) ?_
  rintro s2 F4 M2
  replace hB := M2.ext _ _ hB
  replace M2 := M2.down M1.ext
  obtain ⟨A2, c2, rfl, hc2, R2⟩ := M2.own.row
  generalize hp2 : putM 2 p1 (bs.length : Int) = p2 at M2 R2 hc2 hcb hhl l2
  refine short [1, 17] [.pointer (some ⟨b, 0, none⟩), .slice A2 p2.length c2] rfl fun ρ => ?_
  (conv => whnf)
  refine load_blk hB rfl rfl ?_
  (conv => whnf)
  refine load_blk hB rfl rfl ?_
  (conv => whnf)
  refine new_step (.cells (bytesOf [y1]).toArray 5) (congrArg (fun z => Obj.cells #[Value.int .u8 z] 5) w1) fun g hg => ?_
  have hX := Ext.new hg (.cells (bytesOf [y1]).toArray 5)
  have hG := Heap.put_same F4 g (.cells (bytesOf [y1]).toArray 5)
  replace hB := hX _ _ hB
  have hE5 := M2.ext.trans hX
  replace R2 := R2.mono hX
  generalize F4.put g _ = F5 at hG hB hE5 R2 ⊢
  (conv => whnf)
  refine new_step (.cells #[.slice A2 p2.length c2, .slice A bs.length c, .slice (some ⟨g, 0, none⟩) 1 1] 22) rfl fun q hq => ?_
  have hX := Ext.new hq (.cells #[.slice A2 p2.length c2, .slice A bs.length c, .slice (some ⟨g, 0, none⟩) 1 1] 22)
  have hQ := Heap.put_same F5 q (.cells #[.slice A2 p2.length c2, .slice A bs.length c, .slice (some ⟨g, 0, none⟩) 1 1] 22)
  replace hB := hX _ _ hB
  replace hG := hX _ _ hG
  replace R2 := R2.mono hX
  replace hE5 := hE5.trans hX
  generalize F5.put q _ = F6 at hQ hG hB hE5 R2 ⊢
  have hrow : RowAt F6 (some ⟨q, 0, none⟩) (([(p2, A2, c2), (bs, A, c), ([y1], some ⟨g, 0, none⟩, 1)] : List BP).map catV) := fun j v hj => ⟨_, rfl, by
    rw [add_plain, Heap.cell_at hQ, Nat.zero_add, ← Array.getElem?_toList]
    exact hj⟩
  have hfl : flat ([(p2, A2, c2), (bs, A, c), ([y1], some ⟨g, 0, none⟩, 1)] : List BP) = p2 ++ (bs ++ [y1]) := by simp [flat]
  have hcc := concat ([(p2, A2, c2), (bs, A, c), ([y1], some ⟨g, 0, none⟩, 1)] : List BP) (some ⟨q, 0, none⟩) 3 F6 hrow (by
    intro p hp
    rcases List.mem_cons.1 hp with rfl | hp
    · exact R2
    rcases List.mem_cons.1 hp with rfl | hp
    · exact ha.mono hE5
    rw [List.mem_singleton.1 hp]
    exact row1 hG) (by simp) (by rw [hfl]; omega)
  rw [hfl] at hcc
  generalize p2 ++ (bs ++ [y1]) = hd at hcc hcb hhl
  (conv => whnf)
  refine call_of hcc ?_
  rintro s7 F7 M7
  replace hB := M7.ext _ _ hB
  replace M7 := M7.down hE5
  clear hcc hrow hfl R2 hG hQ hE5 hX R1 M1 M2
  (conv => whnf)
  refine load_blk hB rfl rfl ?_
  (conv => whnf)
  refine loop_slots [3, 29, 30, 31] (fun mm vs F' => ∃ (j : Nat) (S : Value), j + mm = ks.length ∧ vs = [S, .slice B ks.length cc, .int .i64 (ks.length : Int), .int .i64 (j : Int)] ∧ Mine F F' S 5 1 (putAllM 2 hd (ks.take j)).length (bytesOf (putAllM 2 hd (ks.take j)))) ks.length ⟨0, s7, by omega, rfl, M7⟩ ?_
  clear M7 hB
  rintro mm vs F8 ρ ⟨j, S, hjm, rfl, M8⟩
  (conv => whnf)
  refine cond_split (fun h => ?_) (fun h => ?_)
  · have hj : j < ks.length := by have := of_decide_eq_true h; omega
    obtain ⟨ad, rfl⟩ := hr.some (by simp; omega)
    have hx : ks[j]? = some ks[j] := List.getElem?_eq_getElem hj
    have hst := putAllM_take 2 hd ks j ks[j] hx
    have hlen := putAllM_len 2 (ks.take j) hd
    rw [List.length_take] at hlen
    obtain ⟨A8, c8, rfl, _, R8⟩ := M8.own.row
    have hp := putG 2 (.inr (.inl rfl)) (putAllM 2 hd (ks.take j)) A8 c8 ks[j] F8 R8 (by omega)
    generalize putAllM 2 hd (ks.take j) = cur at hst hlen M8 hp R8
    (conv => whnf)
    refine ⟨⟨by omega, by omega⟩, ?_⟩
    (conv => whnf)
    refine load_step (v := .int .i64 ks[j]) ?_ ?_
    · show F8.cell? (ad.add (Int.toNat (j : Int) * 1)) = _
      rw [Int.toNat_natCast, Nat.mul_one]
      exact (hr.mono M8.ext).cell (by simp [hx])
    (conv => whnf)
    refine call_of hp ?_
    rintro s9 F9 M9
    (conv => whnf)
    refine ⟨mm - 1, by omega, j + 1, s9, by omega, ?_, ?_⟩
    · have hw : IntKind.i64.wrap ((j : Int) + 1) = ((j + 1 : Nat) : Int) := by rw [IntKind.wrap_i64]; omega
      rw [← hw]
      rfl
    · rw [hst]; exact M9.down M8.ext
  · have hj : j = ks.length := by have := of_decide_eq_false h; omega
    subst hj
    rw [List.take_length, ← hcb] at M8
    (conv => whnf)
    exact M8
end Go.Proofs.Ytkahpaipciooiad.Al

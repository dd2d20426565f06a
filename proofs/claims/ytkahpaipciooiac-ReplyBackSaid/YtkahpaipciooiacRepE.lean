/- Replies: reply.Encode and the reference's, over what is known of memory. -/
import Derived.Test.YtkahpaipciooiacRepD
namespace Go.Proofs.Ytkahpaipciooiac.Al
open Go Go.Al Go.Proofs Go.RowKit
set_option maxHeartbeats 8000000
set_option maxRecDepth 100000
set_option linter.unusedVariables false
set_option linter.unusedSimpArgs false
def clampR (k : Int) : Int := if 255 < (if k < 0 then 0 else k) then 255 else (if k < 0 then 0 else k)
def encR (x : RD) : List UInt8 := (([byteAt (clampR x.k) 0] ++ beM 2 x.ns.length) ++ x.ns.flatMap (beM 8) ++ beM 2 x.t.length) ++ x.t
theorem row_cut0 {F : Heap} {A : Option Addr} {vs : List Value} (m : Nat) (h : RowAt F A vs) : RowAt F (if m = 0 then A else A.map (·.add (0 * 1))) vs := by
  split
  · exact h
  · intro j v hj
    obtain ⟨a, rfl, h2⟩ := h j v hj
    exact ⟨a.add (0 * 1), rfl, by rw [add_add, Nat.zero_mul, Nat.zero_add]; exact h2⟩
theorem str_whole (t : List UInt8) (n : Nat) (h : n = t.length) : (⟨t.toArray⟩ : ByteArray).extract 0 n = ⟨t.toArray⟩ := by
  subst h
  apply ByteArray.ext
  simp [ByteArray.data_extract]
theorem in2 {n : Nat} (h : n ≤ 65535) : inM 2 (n : Int) = true := by unfold inM; simp; omega
theorem put2 {l : List UInt8} {n : Nat} (h : n ≤ 65535) : putM 2 l (n : Int) = l ++ beM 2 n := by unfold putM; rw [in2 h, cond_true]
theorem put8 (l : List UInt8) (n : Int) : putM 8 l n = l ++ beM 8 n := rfl
theorem flat8_take {ns : List Int} {j : Nat} {n : Int} (h : ns[j]? = some n) : (ns.take (j + 1)).flatMap (beM 8) = (ns.take j).flatMap (beM 8) ++ beM 8 n := by
  rw [List.take_add_one, h]
  simp
theorem flat8_len (ns : List Int) : (ns.flatMap (beM 8)).length = 8 * ns.length := by
  induction ns with
  | nil => rfl
  | cons n ns ih => rw [List.flatMap_cons, List.length_append, ih, beM_len, List.length_cons]; omega
theorem row_part {F : Heap} {b n : Nat} {cs : Array Value} {e : TypeId} {fz : Nat × Nat} {vs : List Value} (h : F b = some (.cells cs e fz)) (ht : cs.toList.take n = vs) : RowAt F (some ⟨b, 0, none⟩) vs := by
  rw [← ht]
  exact (row_blk h).take n
theorem encode (k : Int) (ns : List Int) (tx : List UInt8) (A : Option Addr) (c : Nat) (F : Heap) (hr : RowAt F A (ns.map (.int .i64))) (hl : ns.length ≤ 2000) (hc : ns.length ≤ c) (ht : tx.length ≤ 20000) :
    FnK Try.prog 14 #[.agg (rpC k (.slice A ns.length c) tx)] F (fun v F' => Mine F F' v 5 1 (encR ⟨k, ns, tx⟩).length (bytesOf (encR ⟨k, ns, tx⟩))) := by
  have henc : encR ⟨k, ns, tx⟩ = (([byteAt (clampR k) 0] ++ beM 2 ns.length) ++ ns.flatMap (beM 8) ++ beM 2 tx.length) ++ tx := rfl
  generalize encR ⟨k, ns, tx⟩ = en at henc ⊢
  have hcl : (if 255 < (if k < 0 then 0 else k) then 255 else (if k < 0 then 0 else k)) = clampR k := rfl
  have hmn : (if (65535 : Int) < (ns.length : Int) then 65535 else (ns.length : Int)) = (ns.length : Int) := if_neg (by omega)
  have hmt : (if (65535 : Int) < (((⟨tx.toArray⟩ : ByteArray).size : Nat) : Int) then 65535 else (((⟨tx.toArray⟩ : ByteArray).size : Nat) : Int)) = (tx.length : Int) := if_neg (by show ¬ (65535 : Int) < (tx.length : Int); omega)
  have hfl := flat8_len ns
  (refine fn_walk tab_ok Try.func14 rfl rfl rfl rfl ?_; (conv => whnf))
  refine new_step (rpO k (.slice A ns.length c) tx) rfl fun b h0_b => ?_
  have hE_b := Ext.new h0_b (rpO k (.slice A ns.length c) tx)
  have hB_b := Heap.put_same F b (rpO k (.slice A ns.length c) tx)
  generalize F.put b _ = F1 at hE_b hB_b ⊢
  have hr1 := row_cut0 c (hr.mono hE_b)
  obtain ⟨A', hA'⟩ : ∃ A', (if c = 0 then A else A.map (·.add (0 * 1))) = A' := ⟨_, rfl⟩
  rw [hA'] at hr1
  ((conv => whnf); repeat (first | (apply load_at; (conv => lhs; whnf); (with_reducible assumption); rfl; (conv => whnf)) | (apply loads_at; (conv => lhs; whnf); (with_reducible assumption); rfl; (conv => whnf)) | (refine ⟨⟨by omega, by omega⟩, ?_⟩; (conv => whnf))))
  refine draw_cut (fun env' F' => F' = F1 ∧ env' 3 = .int .i64 (clampR k) ∧ env' 4 = .slice A' ns.length c ∧ env' 5 = .string ⟨tx.toArray⟩) (fun K hK => ?_) ?_
  · refine draw_walk tab_ok (by kernel_rfl) [0, 1, 2, 3, 4, 5, 6, 7, 8, 9, 10, 11, 12, 13, 14, 15] (by kernel_rfl) ?_
    ((conv => whnf); repeat (first | (apply load_at; (conv => lhs; whnf); (with_reducible assumption); rfl; (conv => whnf)) | (apply loads_at; (conv => lhs; whnf); (with_reducible assumption); rfl; (conv => whnf)) | (refine ⟨⟨by omega, by omega⟩, ?_⟩; (conv => whnf))))
    exact hK _ _ ⟨rfl, congrArg (Value.int .i64) hcl, slice_eq hA' (by rw [hmn]; rfl) rfl, congrArg Value.string (str_whole tx _ (by rw [hmt]; rfl))⟩
  rintro env' F1 ⟨rfl, q3, q4, q5⟩
  refine short [3, 4, 5] [.int .i64 (clampR k), .slice A' ns.length c, .string ⟨tx.toArray⟩] (by simp only [List.map_cons, List.map_nil, q3, q4, q5]) fun ρ => ?_
  clear q3 q4 q5 hcl hmn hA' hmt
  generalize clampR k = cl at henc ⊢
  ((conv => whnf); repeat (first | (apply load_at; (conv => lhs; whnf); (with_reducible assumption); rfl; (conv => whnf)) | (apply loads_at; (conv => lhs; whnf); (with_reducible assumption); rfl; (conv => whnf)) | (refine ⟨⟨by omega, by omega⟩, ?_⟩; (conv => whnf))))
  refine new_step (.cells #[.int .u8 (IntKind.u8.wrap cl)] 5) rfl fun g h0_g => ?_
  have hE_g := Ext.new h0_g (.cells #[.int .u8 (IntKind.u8.wrap cl)] 5)
  have hB_g := Heap.put_same F1 g (.cells #[.int .u8 (IntKind.u8.wrap cl)] 5)
  generalize F1.put g _ = F2 at hE_g hB_g ⊢
  have hrow := row_blk hB_g
  have hbs : (#[Value.int .u8 (IntKind.u8.wrap cl)] : Array Value).toList = bytesOf [byteAt cl 0] := by rw [wrap_byte]; rfl
  rw [hbs] at hrow
  have p2 := putG 2 (.inr (.inl rfl)) [byteAt cl 0] (some ⟨g, 0, none⟩) 1 (ns.length : Int) F2 hrow (by simp)
  rw [put2 (by omega)] at p2
  have hhl : ([byteAt cl 0] ++ beM 2 ns.length).length = 3 := by simp [beM_len]
  generalize [byteAt cl 0] ++ beM 2 ns.length = hd at p2 henc hhl
  (conv => whnf)
  refine call_of p2 ?_
  rintro S3 F3 hM3
  have hB3 := (hr1.mono hE_g).mono hM3.ext
  replace hM3 := hM3.down (hE_b.trans hE_g)
  have hM0 : Mine F F3 S3 5 1 (hd ++ (ns.take 0).flatMap (beM 8)).length (bytesOf (hd ++ (ns.take 0).flatMap (beM 8))) := by simpa using hM3
  clear p2 hrow hbs hB_g hM3 hB_b
  ((conv => whnf); repeat (first | (apply load_at; (conv => lhs; whnf); (with_reducible assumption); rfl; (conv => whnf)) | (apply loads_at; (conv => lhs; whnf); (with_reducible assumption); rfl; (conv => whnf)) | (refine ⟨⟨by omega, by omega⟩, ?_⟩; (conv => whnf))))
  refine loop_slots [5, 6, 33, 34, 35] (fun mm vs F' => ∃ (j : Nat) (S : Value), j + mm = ns.length ∧ vs = [.string ⟨tx.toArray⟩, S, .slice A' ns.length c, .int .i64 (ns.length : Int), .int .i64 (j : Int)] ∧ Mine F F' S 5 1 (hd ++ (ns.take j).flatMap (beM 8)).length (bytesOf (hd ++ (ns.take j).flatMap (beM 8))) ∧ RowAt F' A' (ns.map (.int .i64))) ns.length ⟨0, S3, by omega, rfl, hM0, hB3⟩ ?_
  clear hM0 hB3 hr1
  rintro mm vs F4 ρ ⟨j, S, hjm, rfl, hM, hr4⟩
  (conv => whnf)
  refine cond_split (fun h => ?_) (fun h => ?_)
  · have hj : j < ns.length := by have := of_decide_eq_true h; omega
    obtain ⟨ad, rfl⟩ := hr4.some (by simp; omega)
    have hx : ns[j]? = some ns[j] := List.getElem?_eq_getElem hj
    have hst := flat8_take hx
    have hcell : F4.cell? (ad.add j) = some (.int .i64 ns[j]) := hr4.cell (by simp [hx])
    have hll : (hd ++ (ns.take j).flatMap (beM 8)).length ≤ 20000 := by rw [List.length_append, flat8_len, List.length_take]; omega
    generalize ns[j] = n at hst hcell
    obtain ⟨A4, c4, rfl, hc4, hR4⟩ := hM.own.row
    have p8 := putG 8 (.inr (.inr (.inr rfl))) (hd ++ (ns.take j).flatMap (beM 8)) A4 c4 n F4 hR4 (by omega)
    rw [put8, List.append_assoc, ← hst] at p8
    ((conv => whnf); repeat (first | (apply load_at; (conv => lhs; whnf); (with_reducible assumption); rfl; (conv => whnf)) | (apply loads_at; (conv => lhs; whnf); (with_reducible assumption); rfl; (conv => whnf)) | (refine ⟨⟨by omega, by omega⟩, ?_⟩; (conv => whnf))))
    refine load_step (v := .int .i64 n) ?_ ?_
    · show F4.cell? (ad.add (Int.toNat (j : Int) * 1)) = _
      rw [Int.toNat_natCast, Nat.mul_one]; exact hcell
    (conv => whnf)
    refine call_of p8 ?_
    rintro S5 F5 hM5
    (conv => whnf)
    refine ⟨mm - 1, by omega, j + 1, S5, by omega, ?_, hM5.down hM.ext, hr4.mono hM5.ext⟩
    rw [← wrap_succ (j := j) (by omega)]
    rfl
  · have hj : j = ns.length := by have := of_decide_eq_false h; omega
    subst hj
    rw [List.take_length] at hM
    have hll : (hd ++ ns.flatMap (beM 8)).length ≤ 20000 := by rw [List.length_append, flat8_len]; omega
    generalize hd ++ ns.flatMap (beM 8) = bd at hM hll henc
    obtain ⟨A4, c4, rfl, hc4, hR4⟩ := hM.own.row
    have p2 := putG 2 (.inr (.inl rfl)) bd A4 c4 (tx.length : Int) F4 hR4 (by omega)
    rw [put2 (by omega)] at p2
    have hbl : (bd ++ beM 2 tx.length).length ≤ 30000 := by rw [List.length_append, beM_len]; omega
    generalize bd ++ beM 2 tx.length = be at p2 henc hbl
    (conv => whnf)
    refine call_of p2 ?_
    rintro S5 F5 hM5
    obtain ⟨A5, c5, rfl, hc5, hR5⟩ := hM5.own.row
    replace hM5 := hM5.down hM.ext
    (conv => whnf)
    refine conv_bytes tab_ok rfl rfl rfl rfl rfl fun q cs hq hcs htk => ?_
    have hQ := Heap.put_same F5 q (.cells cs 5 (cs.size, cs.size + 1))
    have hEq := Ext.new hq (.cells cs 5 (cs.size, cs.size + 1))
    generalize F5.put q _ = F6 at hQ hEq ⊢
    have hrq : RowAt F6 (some ⟨q, 0, none⟩) (bytesOf tx) := row_part hQ htk
    (conv => whnf)
    refine new_step (.cells #[.slice A5 be.length c5, .slice (some ⟨q, 0, none⟩) tx.length cs.size] 22) rfl fun y h0_y => ?_
    have hE_y := Ext.new h0_y (.cells #[.slice A5 be.length c5, .slice (some ⟨q, 0, none⟩) tx.length cs.size] 22)
    have hB_y := Heap.put_same F6 y (.cells #[.slice A5 be.length c5, .slice (some ⟨q, 0, none⟩) tx.length cs.size] 22)
    generalize F6.put y _ = F7 at hE_y hB_y ⊢
    have hcat := concat [(be, A5, c5), (tx, some ⟨q, 0, none⟩, cs.size)] (some ⟨y, 0, none⟩) 2 F7 (row_blk hB_y) (by
      intro p hp
      simp only [List.mem_cons, List.not_mem_nil, or_false] at hp
      rcases hp with rfl | rfl
      · exact (hR5.mono hEq).mono hE_y
      · exact hrq.mono hE_y) (by simp) (by simp only [flat, List.flatMap_cons, List.flatMap_nil, List.append_nil, List.length_append]; omega)
    have hfl2 : flat [(be, A5, c5), (tx, some ⟨q, 0, none⟩, cs.size)] = en := by rw [henc]; simp [flat]
    rw [hfl2] at hcat
    (conv => whnf)
    refine call_of hcat ?_
    rintro S8 F8 hM8
    (conv => whnf)
    exact hM8.down (hM5.ext.trans (hEq.trans hE_y))
end Go.Proofs.Ytkahpaipciooiac.Al

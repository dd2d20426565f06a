/- Replies: the reference's Encode, over what is known of memory. -/
import Derived.Test.YtkahpaipciooiacRepE
namespace Go.Proofs.Ytkahpaipciooiac.Al
open Go Go.Al Go.Proofs Go.RowKit
set_option maxHeartbeats 8000000
set_option maxRecDepth 100000
set_option linter.unusedVariables false
set_option linter.unusedSimpArgs false
theorem rencode (k : Int) (ns : List Int) (tx : List UInt8) (A : Option Addr) (c : Nat) (F : Heap) (hr : RowAt F A (ns.map (.int .i64))) (hl : ns.length ≤ 2000) (ht : tx.length ≤ 20000) :
    FnK Try.prog 15 #[.agg (rpC k (.slice A ns.length c) tx)] F (fun v F' => Mine F F' v 5 1 (encR ⟨k, ns, tx⟩).length (bytesOf (encR ⟨k, ns, tx⟩))) := by
  have henc : encR ⟨k, ns, tx⟩ = (([byteAt (clampR k) 0] ++ beM 2 ns.length) ++ ns.flatMap (beM 8) ++ beM 2 tx.length) ++ tx := rfl
  generalize encR ⟨k, ns, tx⟩ = en at henc ⊢
  have hcl : (if 255 < (if k < 0 then 0 else k) then 255 else (if k < 0 then 0 else k)) = clampR k := rfl
  have hmn : (if (65535 : Int) < (ns.length : Int) then 65535 else (ns.length : Int)) = (ns.length : Int) := if_neg (by omega)
  have hmt : (if (65535 : Int) < (((⟨tx.toArray⟩ : ByteArray).size : Nat) : Int) then 65535 else (((⟨tx.toArray⟩ : ByteArray).size : Nat) : Int)) = (tx.length : Int) := if_neg (by show ¬ (65535 : Int) < (tx.length : Int); omega)
  (refine fn_walk tab_ok Try.func15 rfl rfl rfl rfl ?_; (conv => whnf))
  refine new_step (rpO k (.slice A ns.length c) tx) rfl fun b h0_b => ?_
  have hE_b := Ext.new h0_b (rpO k (.slice A ns.length c) tx)
  have hB_b := Heap.put_same F b (rpO k (.slice A ns.length c) tx)
  generalize F.put b _ = F1 at hE_b hB_b ⊢
  (conv => whnf)
  refine draw_cut (fun env' F' => F' = F1 ∧ env' 1 = .pointer (some ⟨b, 0, none⟩) ∧ env' 3 = .int .i64 (ns.length : Int) ∧ env' 4 = .int .i64 (tx.length : Int)) (fun K hK => ?_) ?_
  · refine draw_walk tab_ok (by kernel_rfl) [0, 1, 2, 3, 4, 5, 6, 7, 8, 9] (by kernel_rfl) ?_
    ((conv => whnf); repeat (first | (apply load_at; (conv => lhs; whnf); (with_reducible assumption); rfl; (conv => whnf)) | (apply loads_at; (conv => lhs; whnf); (with_reducible assumption); rfl; (conv => whnf)) | (refine ⟨⟨by omega, by omega⟩, ?_⟩; (conv => whnf))))
    exact hK _ _ ⟨rfl, rfl, congrArg (Value.int .i64) hmn, congrArg (Value.int .i64) hmt⟩
  rintro env' F1 ⟨rfl, q1, q3, q4⟩
  refine short [1, 3, 4] [.pointer (some ⟨b, 0, none⟩), .int .i64 (ns.length : Int), .int .i64 (tx.length : Int)] (by simp only [List.map_cons, List.map_nil, q1, q3, q4]) fun ρ => ?_
  clear q1 q3 q4 hmn hmt
  ((conv => whnf); repeat (first | (apply load_at; (conv => lhs; whnf); (with_reducible assumption); rfl; (conv => whnf)) | (apply loads_at; (conv => lhs; whnf); (with_reducible assumption); rfl; (conv => whnf)) | (refine ⟨⟨by omega, by omega⟩, ?_⟩; (conv => whnf))))
  refine new_step (.cells #[.int .u8 (IntKind.u8.wrap (if 255 < (if k < 0 then 0 else k) then 255 else (if k < 0 then 0 else k)))] 5) rfl fun g h0_g => ?_
  have hE_g := Ext.new h0_g (.cells #[.int .u8 (IntKind.u8.wrap (if 255 < (if k < 0 then 0 else k) then 255 else (if k < 0 then 0 else k)))] 5)
  have hB_g := Heap.put_same F1 g (.cells #[.int .u8 (IntKind.u8.wrap (if 255 < (if k < 0 then 0 else k) then 255 else (if k < 0 then 0 else k)))] 5)
  generalize F1.put g _ = F2 at hE_g hB_g ⊢
  have hrow := row_blk hB_g
  have hbs : (#[Value.int .u8 (IntKind.u8.wrap (if 255 < (if k < 0 then 0 else k) then 255 else (if k < 0 then 0 else k)))] : Array Value).toList = bytesOf [byteAt (clampR k) 0] := by rw [hcl, wrap_byte]; rfl
  rw [hbs] at hrow
  clear hbs hcl
  have p2 := rputG 2 (.inr (.inl rfl)) [byteAt (clampR k) 0] (some ⟨g, 0, none⟩) 1 (ns.length : Int) F2 hrow (by simp)
  rw [put2 (by omega)] at p2
  have hhl : ([byteAt (clampR k) 0] ++ beM 2 ns.length).length = 3 := by simp [beM_len]
  generalize [byteAt (clampR k) 0] ++ beM 2 ns.length = hd at p2 henc hhl
  (conv => whnf)
  refine call_of p2 ?_
  rintro S3 F3 hM3
  have hB3 := hM3.ext _ _ (hE_g _ _ hB_b)
  replace hM3 := hM3.down (hE_b.trans hE_g)
  have hM0 : Mine F F3 S3 5 1 (hd ++ (ns.take 0).flatMap (beM 8)).length (bytesOf (hd ++ (ns.take 0).flatMap (beM 8))) := by simpa using hM3
  clear p2 hrow hM3
  ((conv => whnf); repeat (first | (apply load_at; (conv => lhs; whnf); (with_reducible assumption); rfl; (conv => whnf)) | (apply loads_at; (conv => lhs; whnf); (with_reducible assumption); rfl; (conv => whnf)) | (refine ⟨⟨by omega, by omega⟩, ?_⟩; (conv => whnf))))
  refine loop_slots [1, 3, 4, 5, 6] (fun mm vs F' => ∃ (j : Nat) (S : Value), j + mm = ns.length ∧ vs = [.pointer (some ⟨b, 0, none⟩), .int .i64 (ns.length : Int), .int .i64 (tx.length : Int), S, .int .i64 (j : Int)] ∧ Mine F F' S 5 1 (hd ++ (ns.take j).flatMap (beM 8)).length (bytesOf (hd ++ (ns.take j).flatMap (beM 8))) ∧ F' b = some (rpO k (.slice A ns.length c) tx)) ns.length ⟨0, S3, by omega, rfl, hM0, hB3⟩ ?_
  clear hM0 hB3 hB_b hE_b hE_g
  rintro mm vs F4 ρ ⟨j, S, hjm, rfl, hM, hB4⟩
  have hr4 := hr.mono hM.ext
  (conv => whnf)
  refine cond_split (fun h => ?_) (fun h => ?_)
  · have hj : j < ns.length := by have := of_decide_eq_true h; omega
    obtain ⟨ad, rfl⟩ := hr4.some (by simp; omega)
    have hx : ns[j]? = some ns[j] := List.getElem?_eq_getElem hj
    have hst := flat8_take hx
    have hcell : F4.cell? (ad.add j) = some (.int .i64 ns[j]) := hr4.cell (by simp [hx])
    have hll : (hd ++ (ns.take j).flatMap (beM 8)).length ≤ 20000 := by rw [List.length_append, flat8_len, List.length_take]; omega
    generalize ns[j] = n at hst hcell
    obtain ⟨A4, c4, rfl, hc4, hR4⟩ := hM.own.row
    have p8 := rputG 8 (.inr (.inr (.inr rfl))) (hd ++ (ns.take j).flatMap (beM 8)) A4 c4 n F4 hR4 (by omega)
    rw [put8, List.append_assoc, ← hst] at p8
    ((conv => whnf); repeat (first | (apply load_at; (conv => lhs; whnf); (with_reducible assumption); rfl; (conv => whnf)) | (apply loads_at; (conv => lhs; whnf); (with_reducible assumption); rfl; (conv => whnf)) | (refine ⟨⟨by omega, by omega⟩, ?_⟩; (conv => whnf))))
    refine load_step (v := .int .i64 n) ?_ ?_
    · show F4.cell? (ad.add (Int.toNat (j : Int) * 1)) = _
      rw [Int.toNat_natCast, Nat.mul_one]; exact hcell
    (conv => whnf)
    refine call_of p8 ?_
    rintro S5 F5 hM5
    have hB5 := hM5.ext _ _ hB4
    (conv => whnf)
    refine ⟨mm - 1, by omega, j + 1, S5, by omega, ?_, hM5.down hM.ext, hB5⟩
    rw [← wrap_succ (j := j) (by omega)]
    rfl
  · have hj : j = ns.length := by have := of_decide_eq_false h; omega
    subst hj
    rw [List.take_length] at hM
    have hll : (hd ++ ns.flatMap (beM 8)).length ≤ 20000 := by rw [List.length_append, flat8_len]; omega
    generalize hd ++ ns.flatMap (beM 8) = bd at hM hll henc
    obtain ⟨A4, c4, rfl, hc4, hR4⟩ := hM.own.row
    have p2 := rputG 2 (.inr (.inl rfl)) bd A4 c4 (tx.length : Int) F4 hR4 (by omega)
    rw [put2 (by omega)] at p2
    have hbl : (bd ++ beM 2 tx.length).length ≤ 30000 := by rw [List.length_append, beM_len]; omega
    generalize bd ++ beM 2 tx.length = be at p2 henc hbl
    have hsx : (tx.length : Int) ≤ (((⟨tx.toArray⟩ : ByteArray).size : Nat) : Int) := Int.le_refl _
    (conv => whnf)
    refine draw_tree tab_ok (by kernel_rfl) [4] (DT.row [0, 1, 3, 4, 5, 6, 2, 7, 8] .nil) (by kernel_rfl) ?_
    ((conv => whnf); repeat (first | (apply load_at; (conv => lhs; whnf); (with_reducible assumption); rfl; (conv => whnf)) | (apply loads_at; (conv => lhs; whnf); (with_reducible assumption); rfl; (conv => whnf)) | (refine ⟨⟨by omega, by omega⟩, ?_⟩; (conv => whnf))))
    refine call_of p2 ?_
    rintro S5 F5 hM5
    refine ⟨hM5.ext, ?_⟩
    obtain ⟨A5, c5, rfl, hc5, hR5⟩ := hM5.own.row
    (conv => whnf)
    refine append_mine (F0 := F4) (s := .slice A5 be.length c5) tab_ok rfl rfl ?hq rfl rfl ⟨_, rfl, fun k h => by cases h⟩ ⟨_, rfl, rfl⟩ (by decide) hM5 (m := tx.length) (ys := bytesOf tx) (y := .string ⟨tx.toArray⟩) ⟨by rw [bytes_len]; exact (Nat.mul_one _).symm, .inr ⟨_, rfl, rfl, rfl, rfl⟩⟩ (hone_bytes _) (by show 2 * (be.length + tx.length) * 1 ≤ _; omega) fun S7 F7 hM7 hk7 => ?_
    case hq =>
      conv => lhs; whnf
      exact congrArg Value.string (str_whole tx _ (Int.toNat_natCast _))
    refine ⟨hM7.ext, ?_⟩
    rw [← bytes_app] at hM7
    have hM8 := hM7.down hM.ext
    rw [henc, List.length_append]
    (conv => whnf)
    exact hM8
end Go.Proofs.Ytkahpaipciooiac.Al

/- Replies: reply.counted, slices.Chunk and its iterator, over what is known of memory. -/
import Derived.Test.YtkahpaipciooiacRepA
namespace Go.Proofs.Ytkahpaipciooiac.Al
open Go Go.Al Go.Proofs Go.RowKit
set_option maxHeartbeats 8000000
set_option maxRecDepth 100000
set_option linter.unusedVariables false
set_option linter.unusedSimpArgs false
theorem getN2 (b : List UInt8) (i : Nat) : getN b i 2 = (((getN b i 2).toNat : Nat) : Int) ∧ (getN b i 2).toNat ≤ 65535 := by
  unfold getN
  split
  · have hl : ((b.drop i).take 2).length ≤ 4 := by rw [List.length_take]; omega
    have h1 := gB_lt ((b.drop i).take 2)
    have h2 : ((b.drop i).take 2).length ≤ 2 := by rw [List.length_take]; omega
    have h3 : 256 ^ ((b.drop i).take 2).length ≤ 256 ^ 2 := Nat.pow_le_pow_right (by decide) h2
    rw [getV_nat hl]
    omega
  · omega
def cntN (b : List UInt8) : Nat := (getN b 0 2).toNat
def cntOk (b : List UInt8) (s : Nat) : Prop := 2 ≤ b.length ∧ cntN b * s ≤ (b.drop 2).length
theorem counted (b : List UInt8) (A : Option Addr) (c s : Nat) (F : Heap) (hr : RowAt F A (bytesOf b)) (hc : b.length ≤ c) (hl : b.length ≤ 100000) (hs : s ≤ 8) :
    FnK Try.prog 32 #[.slice A b.length c, .int .i64 (s : Int)] F (fun v F' => F' = F ∧ ((cntOk b s ∧ ∃ S T, v = .tuple #[S, T, .bool true] ∧ CutR F S ((b.drop 2).take (cntN b * s)) ∧ CutR F T ((b.drop 2).drop (cntN b * s))) ∨ (¬ cntOk b s ∧ v = .tuple #[.slice none 0 0, .slice none 0 0, .bool false]))) := by
  have hg := fun G hg => getG 2 (.inr (.inl rfl)) b A c 0 G hg (by omega) hc (by decide)
  obtain ⟨hn1, hn2⟩ := getN2 b 0
  have hcn : cntN b = (getN b 0 2).toNat := rfl
  have hco : cntOk b s ↔ 2 ≤ b.length ∧ cntN b * s ≤ (b.drop 2).length := Iff.rfl
  rw [← hcn] at hn1 hn2
  have hge : getE b 0 2 = if 0 + 2 ≤ b.length then 0 else 3 := rfl
  rw [hn1] at hg
  generalize cntN b = n at hg hn2 hco ⊢
  generalize getE b 0 2 = e at hg hge
  generalize cntOk b s = ok at hco ⊢
  clear hn1 hcn
  have hns : n * s ≤ 65535 * 8 := Nat.mul_le_mul hn2 hs
  have hm : IntKind.i64.wrap ((n : Int) * (s : Int)) = ((n * s : Nat) : Int) := by
    rw [← Int.natCast_mul]
    exact wrap_eq (by omega) (by omega)
  have hp := fun (h : 2 ≤ b.length) => part (b.drop 2) (if c = 2 then A else A.map (·.add (2 * 1))) (c - 2) (n * s) F (by
    have := row_cut3 2 (b.length - 2) c 2 hr rfl (by omega) (by omega)
    rwa [List.take_of_length_le (by rw [List.length_drop]; exact Nat.le_refl _)] at this) (by rw [List.length_drop]; omega) (by rw [List.length_drop]; omega) (by omega)
  rw [← hm] at hp
  have hdl : (b.drop 2).length = b.length - 2 := List.length_drop
  (refine fn_walk tab_ok Try.func32 rfl rfl rfl rfl ?_; (conv => whnf))
  refine call_of (hg F hr) ?_
  rintro v F1 ⟨rfl, rfl⟩
  ((conv => whnf); repeat (first | (apply load_at; (conv => lhs; whnf); (with_reducible assumption); rfl; (conv => whnf)) | (apply loads_at; (conv => lhs; whnf); (with_reducible assumption); rfl; (conv => whnf)) | (refine ⟨⟨by omega, by omega⟩, ?_⟩; (conv => whnf))))
  refine cond_split (fun h => ?_) (fun h => ?_)
  · have h : (e != 0) = true := h
    have h2 : ¬ 2 ≤ b.length := fun h2 => by rw [if_pos (by omega)] at hge; rw [hge] at h; exact absurd h (by decide)
    ((conv => whnf); repeat (first | (apply load_at; (conv => lhs; whnf); (with_reducible assumption); rfl; (conv => whnf)) | (apply loads_at; (conv => lhs; whnf); (with_reducible assumption); rfl; (conv => whnf)) | (refine ⟨⟨by omega, by omega⟩, ?_⟩; (conv => whnf))))
    exact ⟨rfl, .inr ⟨fun h => h2 (hco.1 h).1, rfl⟩⟩
  · have h : (e != 0) = false := h
    have h2 : 2 ≤ b.length := Classical.byContradiction fun h2 => by rw [if_neg (by omega)] at hge; rw [hge] at h; exact absurd h (by decide)
    replace hp := hp h2
    rw [hdl] at hp
    ((conv => whnf); repeat (first | (apply load_at; (conv => lhs; whnf); (with_reducible assumption); rfl; (conv => whnf)) | (apply loads_at; (conv => lhs; whnf); (with_reducible assumption); rfl; (conv => whnf)) | (refine ⟨⟨by omega, by omega⟩, ?_⟩; (conv => whnf))))
    refine call_of hp ?_
    rintro v F2 ⟨rfl, hv⟩
    rcases hv with ⟨g1, S, T, rfl, g2, g3⟩ | ⟨g1, rfl⟩
    · (conv => whnf)
      exact ⟨rfl, .inl ⟨hco.2 ⟨h2, by omega⟩, S, T, rfl, g2, g3⟩⟩
    · (conv => whnf)
      exact ⟨rfl, .inr ⟨fun h => g1 (by have := (hco.1 h).2; omega), rfl⟩⟩
abbrev boxS (V : Value) : Obj := .cells #[V] 22
abbrev boxI (n : Int) : Obj := .cells #[.int .i64 n] 3
theorem chunk (A : Option Addr) (n c : Nat) (F : Heap) : FnK Try.prog 33 #[.slice A n c, .int .i64 8] F (fun v F' => ∃ p q, v = .func (.func 54) #[] #[.pointer (some ⟨p, 0, none⟩), .pointer (some ⟨q, 0, none⟩)] ∧ F' p = some (boxS (.slice A n c)) ∧ F' q = some (boxI 8) ∧ F p = none ∧ F q = none ∧ Ext F F') := by
  (refine fn_walk tab_ok Try.func33 rfl rfl rfl rfl ?_; (conv => whnf))
  refine new_step (boxS (.slice A n c)) rfl fun p h0_p => ?_
  have hE_p := Ext.new h0_p (boxS (.slice A n c))
  have hB_p := Heap.put_same F p (boxS (.slice A n c))
  generalize F.put p _ = F1 at hE_p hB_p ⊢
  (conv => whnf)
  refine new_step (boxI 8) rfl fun q h0_q => ?_
  have hE_q := Ext.new h0_q (boxI 8)
  have hB_q := Heap.put_same F1 q (boxI 8)
  generalize F1.put q _ = F2 at hE_q hB_q ⊢
  have hP := hE_q _ _ hB_p
  ((conv => whnf); repeat (first | (apply load_at; (conv => lhs; whnf); (with_reducible assumption); rfl; (conv => whnf)) | (apply loads_at; (conv => lhs; whnf); (with_reducible assumption); rfl; (conv => whnf)) | (refine ⟨⟨by omega, by omega⟩, ?_⟩; (conv => whnf))))
  exact ⟨p, q, rfl, hP, hB_q, h0_p, hE_p.none h0_q, hE_p.trans hE_q⟩
def chk (l : List UInt8) (i : Nat) : List UInt8 := (l.drop (8 * i)).take 8
theorem chunk1 (l : List UInt8) (A : Option Addr) (c m L p q : Nat) (G : Heap) (Inv : Nat → Heap → Prop) (hl : l.length = 8 * m) (hc : l.length ≤ c) (hm : m ≤ 10000) (hr : RowAt G A (bytesOf l)) (hp : G p = some (boxS (.slice A l.length c))) (hq : G q = some (boxI 8))
    (hI : ∀ i F, Inv i F → Ext G F) (hy : ∀ i F, i < m → Inv i F → ∀ S, CutR F S (chk l i) → YieldK Try.prog L #[S] F (fun v F' => v = .bool true ∧ Inv (i + 1) F')) (F : Heap) (h0 : Inv 0 F) :
    FnK Try.prog 54 #[.func (.yield L) #[] #[], .pointer (some ⟨p, 0, none⟩), .pointer (some ⟨q, 0, none⟩)] F (fun v F' => Inv m F') := by
  (refine fn_walk tab_ok Try.func54 rfl rfl rfl rfl ?_; (conv => whnf))
  refine loop_slots [0, 1, 2, 4] (fun mm vs F' => ∃ j : Nat, j + mm = m ∧ vs = [.func (.yield L) #[] #[], .pointer (some ⟨p, 0, none⟩), .pointer (some ⟨q, 0, none⟩), .int .i64 ((8 * j : Nat) : Int)] ∧ Inv j F') m ⟨0, by omega, rfl, h0⟩ ?_
  rintro mm vs F2 ρ ⟨j, hjm, rfl, hj⟩
  have hE := hI _ _ hj
  have hp2 := hE _ _ hp
  have hq2 := hE _ _ hq
  ((conv => whnf); repeat (first | (apply load_at; (conv => lhs; whnf); (with_reducible assumption); rfl; (conv => whnf)) | (apply loads_at; (conv => lhs; whnf); (with_reducible assumption); rfl; (conv => whnf)) | (refine ⟨⟨by omega, by omega⟩, ?_⟩; (conv => whnf))))
  refine cond_split (fun h => ?_) (fun h => ?_)
  · have h : decide (((8 * j : Nat) : Int) < (l.length : Int)) = true := h
    have h := of_decide_eq_true h
    have hjm2 : j < m := by omega
    have hmin : (if ((l.length - Int.toNat ((8 * j : Nat) : Int) : Nat) : Int) < 8 then ((l.length - Int.toNat ((8 * j : Nat) : Int) : Nat) : Int) else 8) = 8 := by
      rw [Int.toNat_natCast, if_neg (by omega)]
    (conv => whnf)
    refine draw_cut (fun env' F' => F' = F2 ∧ env' 0 = .func (.yield L) #[] #[] ∧ env' 1 = .pointer (some ⟨p, 0, none⟩) ∧ env' 2 = .pointer (some ⟨q, 0, none⟩) ∧ env' 4 = .int .i64 ((8 * j : Nat) : Int) ∧ env' 5 = .int .i64 8) (fun K hK => ?_) ?_
    · refine draw_walk tab_ok (by kernel_rfl) [0, 1, 2, 3, 4, 5, 6] (by kernel_rfl) ?_
      ((conv => whnf); repeat (first | (apply load_at; (conv => lhs; whnf); (with_reducible assumption); rfl; (conv => whnf)) | (apply loads_at; (conv => lhs; whnf); (with_reducible assumption); rfl; (conv => whnf)) | (refine ⟨⟨by omega, by omega⟩, ?_⟩; (conv => whnf))))
      exact hK _ _ ⟨rfl, rfl, rfl, rfl, rfl, congrArg (Value.int .i64) hmin⟩
    rintro env' F3 ⟨rfl, q0, q1, q2, q4, q5⟩
    refine short [0, 1, 2, 4, 5] [.func (.yield L) #[] #[], .pointer (some ⟨p, 0, none⟩), .pointer (some ⟨q, 0, none⟩), .int .i64 ((8 * j : Nat) : Int), .int .i64 8] (by simp only [List.map_cons, List.map_nil, q0, q1, q2, q4, q5]) fun ρ => ?_
    clear q0 q1 q2 q4 q5 hmin
    have hadd : IntKind.i64.wrap (((8 * j : Nat) : Int) + 8) = ((8 * j + 8 : Nat) : Int) := by rw [wrap_eq (by omega) (by omega)]; omega
    have hchl : (chk l j).length = 8 := by unfold chk; rw [List.length_take, List.length_drop]; omega
    have hrow := row_cut3 (8 * j) 8 (Int.toNat (IntKind.i64.wrap (((8 * j : Nat) : Int) + 8))) (Int.toNat ((8 * j : Nat) : Int)) (hr.mono hE) (Int.toNat_natCast _) (by rw [hadd, Int.toNat_natCast]; exact Nat.le_refl _) (by omega)
    ((conv => whnf); repeat (first | (apply load_at; (conv => lhs; whnf); (with_reducible assumption); rfl; (conv => whnf)) | (apply loads_at; (conv => lhs; whnf); (with_reducible assumption); rfl; (conv => whnf)) | (refine ⟨⟨by omega, by omega⟩, ?_⟩; (conv => whnf))))
    refine yield_mono (hy j F3 hjm2 hj _ ⟨_, Int.toNat (IntKind.i64.wrap (((8 * j : Nat) : Int) + 8)) - Int.toNat ((8 * j : Nat) : Int), slice_eq rfl (by rw [hadd, hchl]; omega) rfl, by rw [hadd, hchl]; omega, hrow⟩) ?_
    rintro v F4 ⟨rfl, hj4⟩
    have hE4 := hI _ _ hj4
    have hq4 := hE4 _ _ hq
    ((conv => whnf); repeat (first | (apply load_at; (conv => lhs; whnf); (with_reducible assumption); rfl; (conv => whnf)) | (apply loads_at; (conv => lhs; whnf); (with_reducible assumption); rfl; (conv => whnf)) | (refine ⟨⟨by omega, by omega⟩, ?_⟩; (conv => whnf))))
    refine ⟨mm - 1, by omega, j + 1, by omega, ?_, hj4⟩
    have : IntKind.i64.wrap (((8 * j : Nat) : Int) + 8) = ((8 * (j + 1) : Nat) : Int) := hadd
    rw [← this]
    rfl
  · have h : decide (((8 * j : Nat) : Int) < (l.length : Int)) = false := h
    have h := of_decide_eq_false h
    obtain rfl : j = m := by omega
    (conv => whnf)
    exact hj
end Go.Proofs.Ytkahpaipciooiac.Al

/- The order of bytes in plain Lean; internal/bytealg.Compare, bytes.Compare, diff.before and own, over what is known of memory. -/
import Derived.Test.YtlkdbmoocajjlaaPrsW
import Derived.Test.YtlkdbmoocajjlaaAlTerr
import Derived.Lib.Bytealg
namespace Go.Proofs.Ytlkdbmoocajjlaa.Al
open Go Go.Al Go.Proofs Go.RowKit
set_option maxHeartbeats 8000000
set_option maxRecDepth 100000
set_option linter.unusedVariables false
set_option linter.unusedSimpArgs false
abbrev ltB (x y : List UInt8) : Bool := Op.bytesLess x y
theorem ltB_cons (a b : UInt8) (x y : List UInt8) : ltB (a :: x) (b :: y) = (decide (a < b) || (a == b && ltB x y)) := rfl
theorem ltB_nil_cons (b : UInt8) (y : List UInt8) : ltB [] (b :: y) = true := rfl
theorem ltB_nil (x : List UInt8) : ltB x [] = false := by cases x <;> rfl
theorem cb_cons (a b : UInt8) (x y : List UInt8) : Lib.compareBytes (a :: x) (b :: y) = if a < b then -1 else if b < a then 1 else Lib.compareBytes x y := by rw [Lib.compareBytes]
theorem cb_lt : ∀ x y : List UInt8, decide (Lib.compareBytes x y < 0) = ltB x y
  | [], [] => rfl
  | [], _ :: _ => rfl
  | _ :: _, [] => rfl
  | a :: x, b :: y => by
    rw [ltB_cons, ← cb_lt x y, cb_cons]
    by_cases h : a < b
    · rw [if_pos h, decide_eq_true h]; rfl
    · rw [if_neg h, decide_eq_false h, Bool.false_or]
      by_cases h2 : b < a
      · rw [if_pos h2]
        have : a ≠ b := fun e => by subst e; exact h h2
        rw [beq_eq_false_iff_ne.2 this]
        rfl
      · rw [if_neg h2]
        have : a = b := UInt8.le_antisymm (UInt8.not_lt.1 h2) (UInt8.not_lt.1 h)
        subst this
        rw [beq_self_eq_true, Bool.true_and]
theorem cb_eq : ∀ x y : List UInt8, Lib.compareBytes x y = 0 ↔ x = y
  | [], [] => ⟨fun _ => rfl, fun _ => rfl⟩
  | [], _ :: _ => ⟨fun h => (by cases h), fun h => (by cases h)⟩
  | _ :: _, [] => ⟨fun h => (by cases h), fun h => (by cases h)⟩
  | a :: x, b :: y => by
    rw [cb_cons]
    by_cases h : a < b
    · rw [if_pos h]
      exact ⟨fun h => (by cases h), fun e => by rw [(List.cons.inj e).1] at h; exact absurd h (UInt8.lt_irrefl _)⟩
    · rw [if_neg h]
      by_cases h2 : b < a
      · rw [if_pos h2]
        exact ⟨fun h => (by cases h), fun e => by rw [(List.cons.inj e).1] at h2; exact absurd h2 (UInt8.lt_irrefl _)⟩
      · rw [if_neg h2, cb_eq x y]
        have : a = b := UInt8.le_antisymm (UInt8.not_lt.1 h2) (UInt8.not_lt.1 h)
        subst this
        exact ⟨fun e => by rw [e], fun e => (List.cons.inj e).2⟩
theorem ltB_irrefl : ∀ x : List UInt8, ltB x x = false
  | [] => rfl
  | a :: x => by rw [ltB_cons, decide_eq_false (UInt8.lt_irrefl a), ltB_irrefl x, Bool.and_false]; rfl
theorem ltB_trans : ∀ {x y z : List UInt8}, ltB x y = true → ltB y z = true → ltB x z = true
  | x, y, [], _, h => by rw [ltB_nil] at h; cases h
  | x, [], c :: z, h, _ => by rw [ltB_nil] at h; cases h
  | [], b :: y, c :: z, _, _ => rfl
  | a :: x, b :: y, c :: z, h, k => by
    rw [ltB_cons] at h k ⊢
    rw [Bool.or_eq_true, decide_eq_true_eq, Bool.and_eq_true, beq_iff_eq] at h k ⊢
    rcases h with h | ⟨rfl, h⟩
    · rcases k with k | ⟨rfl, k⟩
      · exact .inl (UInt8.lt_trans h k)
      · exact .inl h
    · rcases k with k | ⟨rfl, k⟩
      · exact .inl k
      · exact .inr ⟨rfl, ltB_trans h k⟩
theorem ltB_tri : ∀ x y : List UInt8, ltB x y = true ∨ x = y ∨ ltB y x = true
  | [], [] => .inr (.inl rfl)
  | [], _ :: _ => .inl rfl
  | _ :: _, [] => .inr (.inr rfl)
  | a :: x, b :: y => by
    rw [ltB_cons, ltB_cons]
    simp only [Bool.or_eq_true, decide_eq_true_eq, Bool.and_eq_true, beq_iff_eq]
    by_cases h : a < b
    · exact .inl (.inl h)
    · by_cases h2 : b < a
      · exact .inr (.inr (.inl h2))
      · have : a = b := UInt8.le_antisymm (UInt8.not_lt.1 h2) (UInt8.not_lt.1 h)
        subst this
        rcases ltB_tri x y with h | rfl | h
        · exact .inl (.inr ⟨rfl, h⟩)
        · exact .inr (.inl rfl)
        · exact .inr (.inr (.inr ⟨rfl, h⟩))
theorem ltB_asymm {x y : List UInt8} (h : ltB x y = true) : ltB y x = false := by
  cases e : ltB y x with
  | false => rfl
  | true => have := ltB_trans h e; rw [ltB_irrefl] at this; cases this
theorem ltB_ne {x y : List UInt8} (h : ltB x y = true) : x ≠ y := fun e => by subst e; rw [ltB_irrefl] at h; cases h
theorem wk_loadBytes {P : Program} {F : Heap} : ∀ (l : List UInt8) (ad : Addr) (acc : ByteArray) (K : ByteArray → Heap → Prop), (∀ j b, l[j]? = some b → F.cell? (ad.add j) = some (.int .u8 (b.toNat : Int))) → K ⟨acc.data ++ l.toArray⟩ F → wk P (Extern.Bytes.loadBytes ad l.length acc) F K
  | [], ad, acc, K, _, hk => by
    have e : (⟨acc.data ++ ([] : List UInt8).toArray⟩ : ByteArray) = acc := by
      apply ByteArray.ext
      simp
    rw [e] at hk
    exact hk
  | b :: l, ad, acc, K, h, hk => by
    have h0 : F.cell? ad = some (.int .u8 (b.toNat : Int)) := h 0 b rfl
    refine ⟨_, h0, ?_⟩
    show wk P (Extern.Bytes.loadBytes (ad.add 1) l.length (acc.push (b.toNat : Int).toNat.toUInt8)) F K
    refine wk_loadBytes l (ad.add 1) _ K (fun j x hj => ?_) ?_
    · rw [add_add, Nat.add_comm]
      exact h (j + 1) x (by simpa using hj)
    · have e : (⟨(acc.push (b.toNat : Int).toNat.toUInt8).data ++ l.toArray⟩ : ByteArray) = ⟨acc.data ++ (b :: l).toArray⟩ := by
        apply ByteArray.ext
        have : (b.toNat : Int).toNat.toUInt8 = b := by rw [Int.toNat_natCast]; exact UInt8.ofNat_toNat
        rw [this]
        apply Array.ext'
        simp
      rw [e]
      exact hk
theorem wk_bytesOf {P : Program} {F : Heap} {A : Option Addr} {l : List UInt8} {c : Nat} (hr : RowAt F A (bytesOf l)) {K : ByteArray → Heap → Prop} (hk : K ⟨l.toArray⟩ F) : wk P (Extern.Bytes.bytesOf (.slice A l.length c)) F K := by
  cases A with
  | none =>
    have : l = [] := by
      cases l with
      | nil => rfl
      | cons b l => obtain ⟨a, h, _⟩ := hr 0 _ rfl; cases h
    subst this
    exact hk
  | some ad =>
    show wk P (Extern.Bytes.loadBytes ad l.length .empty) F K
    refine wk_loadBytes l ad .empty K (fun j b hj => ?_) ?_
    · exact hr.cell (by simp [bytesOf, hj])
    · have e : (⟨ByteArray.empty.data ++ l.toArray⟩ : ByteArray) = ⟨l.toArray⟩ := by
        apply ByteArray.ext
        show (#[] : Array UInt8) ++ l.toArray = l.toArray
        simp
      rw [e]
      exact hk
theorem cmpExt {F : Heap} {x y : List UInt8} {A B : Option Addr} {c e : Nat} (hx : RowAt F A (bytesOf x)) (hy : RowAt F B (bytesOf y)) {K : Value → Heap → Prop} (hk : K (.int .i64 (Lib.compareBytes x y)) F) :
    CallK Try.prog 82 #[.slice A x.length c, .slice B y.length e] F K := by
  refine ⟨?_⟩
  have e1 : ∃ fn, Try.prog.funcs[82]? = some fn ∧ (fn.name == "runtime.NumGoroutine") = false ∧ fn.body = none ∧ Extern.findNext fn = none ∧ Extern.find fn = some Extern.BytealgCompare.compare := ⟨_, Try.func82, by kernel_rfl, rfl, by kernel_rfl, by kernel_rfl⟩
  obtain ⟨fn, hf, h1, h2, h3, h4⟩ := e1
  have hdef : Extern.BytealgCompare.compare #[.slice A x.length c, .slice B y.length e] = (do pure (goInt (Extern.BytealgCompare.cmp (← Extern.Bytes.bytesOf (.slice A x.length c)) (← Extern.Bytes.bytesOf (.slice B y.length e))))) := rfl
  simp only [callFunc, wk_bind, wk_program, hf, h1, h2, Bool.false_eq_true, if_false, h3, h4, wk_mark, Option.isNone_none, if_true, hdef]
  refine wk_bytesOf hx ?_
  refine wk_bytesOf hy ?_
  simp only [wk_pure]
  rw [Lib.cmp_eq]
  exact hk
theorem compare (x y : List UInt8) (A B : Option Addr) (c e : Nat) (F : Heap) (hx : RowAt F A (bytesOf x)) (hy : RowAt F B (bytesOf y)) :
    FnK Try.prog 77 #[.slice A x.length c, .slice B y.length e] F (fun v F' => v = .int .i64 (Lib.compareBytes x y) ∧ F' = F) := by
  generalize hz : Lib.compareBytes x y = z
  (refine fn_walk tab_ok Try.func77 rfl rfl rfl rfl ?_; (conv => whnf))
  ((conv => whnf); repeat (first | (apply load_at; (conv => lhs; whnf); (with_reducible assumption); rfl; (conv => whnf)) | (apply load_at; (conv => lhs; rw [add_plain, add_plain]); (with_reducible assumption); rfl; (conv => whnf)) | (apply loads_at; (conv => lhs; whnf); (with_reducible assumption); rfl; (conv => whnf)) | (refine ⟨⟨by omega, by omega⟩, ?_⟩; (conv => whnf))))
  refine cmpExt hx hy ?_
  rw [hz]
  ((conv => whnf); repeat (first | (apply load_at; (conv => lhs; whnf); (with_reducible assumption); rfl; (conv => whnf)) | (apply load_at; (conv => lhs; rw [add_plain, add_plain]); (with_reducible assumption); rfl; (conv => whnf)) | (apply loads_at; (conv => lhs; whnf); (with_reducible assumption); rfl; (conv => whnf)) | (refine ⟨⟨by omega, by omega⟩, ?_⟩; (conv => whnf))))
  exact ⟨rfl, rfl⟩
theorem before (r s : PR) (F : Heap) (hr : RowAt F r.A (bytesOf r.k)) (hs : RowAt F s.A (bytesOf s.k)) :
    FnK Try.prog 60 #[.agg (prA r), .agg (prA s)] F (fun v F' => v = .int .i64 (Lib.compareBytes r.k s.k) ∧ Ext F F') := by
  obtain ⟨k, A1, c1, w, B1, cc1⟩ := r
  obtain ⟨k', A2, c2, w', B2, cc2⟩ := s
  have hc := fun G hx hy => compare k k' A1 A2 c1 c2 G hx hy
  show FnK _ _ _ _ (fun v F' => v = .int .i64 (Lib.compareBytes k k') ∧ Ext F F')
  generalize Lib.compareBytes k k' = z at hc
  (refine fn_walk tab_ok Try.func60 rfl rfl rfl rfl ?_; (conv => whnf))
  refine new_step (prO (.slice A1 k.length c1) (.slice B1 w.length cc1)) rfl fun p h0_p => ?_
  have hE_p := Ext.new h0_p (prO (.slice A1 k.length c1) (.slice B1 w.length cc1))
  have hB_p := Heap.put_same F p (prO (.slice A1 k.length c1) (.slice B1 w.length cc1))
  generalize F.put p _ = F1 at hE_p hB_p ⊢
  ((conv => whnf); repeat (first | (apply load_at; (conv => lhs; whnf); (with_reducible assumption); rfl; (conv => whnf)) | (apply load_at; (conv => lhs; rw [add_plain, add_plain]); (with_reducible assumption); rfl; (conv => whnf)) | (apply loads_at; (conv => lhs; whnf); (with_reducible assumption); rfl; (conv => whnf)) | (refine ⟨⟨by omega, by omega⟩, ?_⟩; (conv => whnf))))
  refine new_step (prO (.slice A2 k'.length c2) (.slice B2 w'.length cc2)) rfl fun q h0_q => ?_
  have hE_q := Ext.new h0_q (prO (.slice A2 k'.length c2) (.slice B2 w'.length cc2))
  have hB_q := Heap.put_same F1 q (prO (.slice A2 k'.length c2) (.slice B2 w'.length cc2))
  generalize F1.put q _ = F2 at hE_q hB_q ⊢
  have hB2 := hE_q _ _ hB_p
  have hE := hE_p.trans hE_q
  ((conv => whnf); repeat (first | (apply load_at; (conv => lhs; whnf); (with_reducible assumption); rfl; (conv => whnf)) | (apply load_at; (conv => lhs; rw [add_plain, add_plain]); (with_reducible assumption); rfl; (conv => whnf)) | (apply loads_at; (conv => lhs; whnf); (with_reducible assumption); rfl; (conv => whnf)) | (refine ⟨⟨by omega, by omega⟩, ?_⟩; (conv => whnf))))
  refine call_of (hc F2 (hr.mono hE) (hs.mono hE)) ?_
  rintro v F3 ⟨rfl, rfl⟩
  ((conv => whnf); repeat (first | (apply load_at; (conv => lhs; whnf); (with_reducible assumption); rfl; (conv => whnf)) | (apply load_at; (conv => lhs; rw [add_plain, add_plain]); (with_reducible assumption); rfl; (conv => whnf)) | (apply loads_at; (conv => lhs; whnf); (with_reducible assumption); rfl; (conv => whnf)) | (refine ⟨⟨by omega, by omega⟩, ?_⟩; (conv => whnf))))
  exact ⟨rfl, hE⟩
end Go.Proofs.Ytlkdbmoocajjlaa.Al

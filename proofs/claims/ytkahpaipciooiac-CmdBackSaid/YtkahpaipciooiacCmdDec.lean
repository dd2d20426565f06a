/- The contract of cmd.Decode, over what is known of memory. -/
import Derived.Test.YtkahpaipciooiacCmdLn
import Derived.Test.YtkahpaipciooiacBEq
namespace Go.Proofs.Ytkahpaipciooiac.Al
open Go Go.Al Go.Proofs Go.RowKit
set_option maxHeartbeats 8000000
set_option maxRecDepth 100000
set_option linter.unusedVariables false
set_option linter.unusedSimpArgs false
def szs : List Nat := [1, 2, 2, 2, 2, 2, 2, 4, 1, 8, 1, 1]
def pos (b : List UInt8) : Nat → Nat
  | 0 => 0
  | j + 1 => rdA b (pos b j) (szs.getD j 0)
def shr (b : List UInt8) : Nat → Bool
  | 0 => false
  | j + 1 => rdS b (pos b j) (szs.getD j 0) (shr b j)
def vl (b : List UInt8) (j : Nat) : Int := getN b (pos b j) (szs.getD j 0)
def tn (b : List UInt8) : Nat := (vl b 11).toNat
def lnOf (b : List UInt8) : LS := lnS b (rdA b (pos b 12) (tn b)) (rdS b (pos b 12) (tn b) (shr b 12))
/-- What the reader reads. -/
def cmdOf (b : List UInt8) : CD := ⟨vl b 0, vl b 1, vl b 2, vl b 3, vl b 4, vl b 5, vl b 6, vl b 7, vl b 8, vl b 9, vl b 10 == 1, txV b (pos b 12) (tn b), (lnOf b).out⟩
def okD (b : List UInt8) : Bool := !(lnOf b).sh && (mayB (cmdOf b) && (encB (cmdOf b) == b))
abbrev zeroC : CD := ⟨0, 0, 0, 0, 0, 0, 0, 0, 0, 0, false, [], []⟩
/-- A command, and whether it was read, as results. -/
def Dec (c : CD) (e : Int) (v : Value) (F : Heap) : Prop := ∃ B cc, v = .tuple #[.agg (cmdC c.k c.y c.x c.f c.o c.n c.p c.d c.l c.a c.ab ⟨c.nm.toArray⟩ (.slice B c.ls.length cc)), .int .i64 e] ∧ RowAt F B (linesV c.ls)
theorem lnGo_len (b : List UInt8) : ∀ (n : Nat) (s : LS), (lnGo b n s).out.length ≤ s.out.length + n := by
  intro n
  induction n with
  | zero => intro s; exact Nat.le_refl _
  | succ n ih =>
    intro s
    obtain ⟨i, sh, out⟩ := s
    cases sh with
    | true => exact Nat.le_add_right _ _
    | false =>
      have := ih ⟨lnA b i, lnSh b i false, out ++ [lnAt b i]⟩
      simp only [List.length_append, List.length_singleton] at this
      show (lnGo b n ⟨lnA b i, lnSh b i false, out ++ [lnAt b i]⟩).out.length ≤ out.length + (n + 1)
      omega
theorem lnOf_len (b : List UInt8) : (lnOf b).out.length ≤ 255 := by
  have := lnGo_len b (getN b (rdA b (pos b 12) (tn b)) 1).toNat ⟨rdA b (rdA b (pos b 12) (tn b)) 1, rdS b (rdA b (pos b 12) (tn b)) 1 (rdS b (pos b 12) (tn b) (shr b 12)), []⟩
  have h2 := (getN1 b (rdA b (pos b 12) (tn b))).2
  unfold lnOf lnS
  simp only [List.length_nil] at this
  omega
theorem DS.other {F0 F : Heap} {r p : Nat} {V : Value} {b : List UInt8} {i : Nat} {sh : Bool} (h : DS F0 F r V b i sh) (hp : F0 p = none) (hne : p ≠ r) (o : Obj) : DS F0 (F.put p o) r V b i sh :=
  ⟨by rw [Heap.put_other _ _ hne.symm]; exact h.cell, h.new, h.ext.put hp _, h.le⟩
def less (F : Heap) (r : Nat) : Heap := fun c => if c = r then none else F c
theorem less_at {F : Heap} {r c : Nat} (h : c ≠ r) : less F r c = F c := by unfold less; rw [if_neg h]
theorem DS.less {F0 F : Heap} {r : Nat} {V : Value} {b : List UInt8} {i : Nat} {sh : Bool} (h : DS F0 F r V b i sh) : DS (less F r) F r V b i sh ∧ Ext F0 (Al.less F r) := by
  refine ⟨⟨h.cell, by unfold Al.less; rw [if_pos rfl], fun c o hc => ?_, h.le⟩, fun c o hc => ?_⟩
  · unfold Al.less at hc
    split at hc
    · cases hc
    · exact hc
  · have hne : c ≠ r := fun e => by rw [e, h.new] at hc; cases hc
    rw [less_at hne]
    exact h.ext c o hc
theorem line_cmd : (59 : Nat) ≠ 38 := by decide
theorem decode (b : List UInt8) (A : Option Addr) (c : Nat) (F : Heap) (hr : RowAt F A (bytesOf b)) (hl : b.length ≤ 50000) (hc : b.length ≤ c) :
    FnK Try.prog 20 #[.slice A b.length c] F (fun v F' => Dec (if okD b then cmdOf b else zeroC) (if okD b then 0 else 14) v F' ∧ Ext F F') := by
  have hdef : cmdOf b = ⟨vl b 0, vl b 1, vl b 2, vl b 3, vl b 4, vl b 5, vl b 6, vl b 7, vl b 8, vl b 9, vl b 10 == 1, txV b (pos b 12) (tn b), (lnOf b).out⟩ := rfl
  have hok : okD b = (!(lnOf b).sh && (mayB (cmdOf b) && (encB (cmdOf b) == b))) := rfl
  have hln : lnOf b = lnS b (rdA b (pos b 12) (tn b)) (rdS b (pos b 12) (tn b) (shr b 12)) := rfl
  have hlen := lnOf_len b
  have htn : vl b 11 = ((tn b : Nat) : Int) ∧ tn b ≤ 255 := getN1 b (pos b 11)
  have htx : (txV b (pos b 12) (tn b)).length ≤ 50000 := by
    unfold txV
    split
    · rw [List.length_take]; omega
    · simp
  generalize lnOf b = L at hdef hok hln hlen
  have e0 : getN b (pos b 0) 1 = vl b 0 := rfl
  have e1 : getN b (pos b 1) 2 = vl b 1 := rfl
  have e2 : getN b (pos b 2) 2 = vl b 2 := rfl
  have e3 : getN b (pos b 3) 2 = vl b 3 := rfl
  have e4 : getN b (pos b 4) 2 = vl b 4 := rfl
  have e5 : getN b (pos b 5) 2 = vl b 5 := rfl
  have e6 : getN b (pos b 6) 2 = vl b 6 := rfl
  have e7 : getN b (pos b 7) 4 = vl b 7 := rfl
  have e8 : getN b (pos b 8) 1 = vl b 8 := rfl
  have e9 : getN b (pos b 9) 8 = vl b 9 := rfl
  have e10 : getN b (pos b 10) 1 = vl b 10 := rfl
  have e11 : getN b (pos b 11) 1 = vl b 11 := rfl
  generalize vl b 0 = v0 at hdef e0
  generalize vl b 1 = v1 at hdef e1
  generalize vl b 2 = v2 at hdef e2
  generalize vl b 3 = v3 at hdef e3
  generalize vl b 4 = v4 at hdef e4
  generalize vl b 5 = v5 at hdef e5
  generalize vl b 6 = v6 at hdef e6
  generalize vl b 7 = v7 at hdef e7
  generalize vl b 8 = v8 at hdef e8
  generalize vl b 9 = v9 at hdef e9
  generalize vl b 10 = v10 at hdef e10
  generalize vl b 11 = v11 at htn e11
  obtain ⟨rfl, htn⟩ := htn
  generalize tn b = t at *
  (refine fn_walk tab_ok Try.func20 rfl rfl rfl rfl ?_; (conv => whnf))
  refine new_step (cmdO 0 0 0 0 0 0 0 0 0 0 false .empty (.slice none 0 0)) rfl fun q hq => ?_
  have hE1 := Ext.new hq (cmdO 0 0 0 0 0 0 0 0 0 0 false .empty (.slice none 0 0))
  have hQ := Heap.put_same F q (cmdO 0 0 0 0 0 0 0 0 0 0 false .empty (.slice none 0 0))
  generalize F.put q _ = F1 at hE1 hQ ⊢
  have hr1 := hr.mono hE1
  (conv => whnf)
  refine new_step (readerO (.slice A b.length c) 0 false) rfl fun r hrn => ?_
  have hd : DS F1 (F1.put r (readerO (.slice A b.length c) 0 false)) r (.slice A b.length c) b (pos b 0) (shr b 0) := ⟨Heap.put_same _ _ _, hrn, Ext.new hrn _, Nat.zero_le _⟩
  generalize F1.put r _ = F2 at hd ⊢
  clear hrn
  have n0 := rdNum 1 (.inl rfl) b A c F1 F2 r (pos b 0) (shr b 0) hr1 hd (by omega) hc
  rw [e0] at n0
  change FnK _ _ _ _ (fun v F' => _ ∧ DS F1 F' r _ b (pos b 1) (shr b 1) ∧ _) at n0
  (conv => whnf)
  refine call_of n0 ?_
  clear n0 hd
  rintro v F3 ⟨rfl, hd, hk⟩
  clear hk
  (conv => whnf)
  refine new_step (cmdO 0 0 0 0 0 0 0 0 0 0 false .empty (.slice none 0 0)) rfl fun p hp => ?_
  have hpr : p ≠ r := fun e => by rw [e, hd.cell] at hp; cases hp
  have hp0 : F1 p = none := by
    cases e : F1 p with
    | none => rfl
    | some o => rw [hd.ext _ _ e] at hp; cases hp
  replace hd := hd.mono (Ext.new hp (cmdO 0 0 0 0 0 0 0 0 0 0 false .empty (.slice none 0 0)))
  have hP := Heap.put_same F3 p (cmdO 0 0 0 0 0 0 0 0 0 0 false .empty (.slice none 0 0))
  generalize F3.put p _ = F4 at hd hP ⊢
  clear hp
  have oi : ∀ z : Int, ∀ v ∈ [Value.int .i64 z], v.oneCell' = true := by simp [Value.oneCell']
  have oc : ∀ v ∈ [Value.int .i64 v0, .int .i64 0, .int .i64 0, .int .i64 0, .int .i64 0, .int .i64 0, .int .i64 0, .int .i64 0, .int .i64 0, .int .i64 0, .bool false, .string .empty, .slice none 0 0], v.oneCell' = true := by simp [Value.oneCell']
  (conv => whnf)
  refine store_step p 0 _ #[.int .i64 v0, .int .i64 0, .int .i64 0, .int .i64 0, .int .i64 0, .int .i64 0, .int .i64 0, .int .i64 0, .int .i64 0, .int .i64 0, .bool false, .string .empty, .slice none 0 0] rfl hP rfl rfl (.inl (Nat.le_refl 0)) oc ?_
  replace hd := hd.other hp0 hpr (cmdO v0 0 0 0 0 0 0 0 0 0 false .empty (.slice none 0 0))
  replace hP := Heap.put_same F4 p (cmdO v0 0 0 0 0 0 0 0 0 0 false .empty (.slice none 0 0))
  generalize F4.put p _ = F5 at hd hP ⊢
  refine short [0, 2, 4, 5] [.slice A b.length c, .pointer (some ⟨q, 0, none⟩), .pointer (some ⟨r, 0, none⟩), .pointer (some ⟨p, 0, none⟩)] rfl fun ρ => ?_
  have n1 := rdNum 2 (.inr (.inl rfl)) b A c F1 F5 r (pos b 1) (shr b 1) hr1 hd (by omega) hc
  rw [e1] at n1
  change FnK _ _ _ _ (fun v F' => _ ∧ DS F1 F' r _ b (pos b 2) (shr b 2) ∧ _) at n1
  (conv => whnf)
  refine call_of n1 ?_
  clear n1 hd
  rintro v F6 ⟨rfl, hd, hk⟩
  replace hP := hk _ _ hP (fun e => hpr (Option.some.inj e).symm)
  clear hk
  have n2 := rdNum 2 (.inr (.inl rfl)) b A c F1 F6 r (pos b 2) (shr b 2) hr1 hd (by omega) hc
  rw [e2] at n2
  change FnK _ _ _ _ (fun v F' => _ ∧ DS F1 F' r _ b (pos b 3) (shr b 3) ∧ _) at n2
  (conv => whnf)
  refine call_of n2 ?_
  clear n2 hd
  rintro v F7 ⟨rfl, hd, hk⟩
  replace hP := hk _ _ hP (fun e => hpr (Option.some.inj e).symm)
  clear hk
  have n3 := rdNum 2 (.inr (.inl rfl)) b A c F1 F7 r (pos b 3) (shr b 3) hr1 hd (by omega) hc
  rw [e3] at n3
  change FnK _ _ _ _ (fun v F' => _ ∧ DS F1 F' r _ b (pos b 4) (shr b 4) ∧ _) at n3
  (conv => whnf)
  refine call_of n3 ?_
  clear n3 hd
  rintro v F8 ⟨rfl, hd, hk⟩
  replace hP := hk _ _ hP (fun e => hpr (Option.some.inj e).symm)
  clear hk
  (conv => whnf)
  refine store_step p 1 _ #[.int .i64 v0, .int .i64 v1, .int .i64 0, .int .i64 0, .int .i64 0, .int .i64 0, .int .i64 0, .int .i64 0, .int .i64 0, .int .i64 0, .bool false, .string .empty, .slice none 0 0] rfl hP rfl rfl (.inl (Nat.le_refl 0)) (oi _) ?_
  replace hd := hd.other hp0 hpr (cmdO v0 v1 0 0 0 0 0 0 0 0 false .empty (.slice none 0 0))
  replace hP := Heap.put_same F8 p (cmdO v0 v1 0 0 0 0 0 0 0 0 false .empty (.slice none 0 0))
  generalize F8.put p _ = F9 at hd hP ⊢
  (conv => whnf)
  refine store_step p 2 _ #[.int .i64 v0, .int .i64 v1, .int .i64 v2, .int .i64 0, .int .i64 0, .int .i64 0, .int .i64 0, .int .i64 0, .int .i64 0, .int .i64 0, .bool false, .string .empty, .slice none 0 0] rfl hP rfl rfl (.inl (Nat.le_refl 0)) (oi _) ?_
  replace hd := hd.other hp0 hpr (cmdO v0 v1 v2 0 0 0 0 0 0 0 false .empty (.slice none 0 0))
  replace hP := Heap.put_same F9 p (cmdO v0 v1 v2 0 0 0 0 0 0 0 false .empty (.slice none 0 0))
  generalize F9.put p _ = F10 at hd hP ⊢
  (conv => whnf)
  refine store_step p 3 _ #[.int .i64 v0, .int .i64 v1, .int .i64 v2, .int .i64 v3, .int .i64 0, .int .i64 0, .int .i64 0, .int .i64 0, .int .i64 0, .int .i64 0, .bool false, .string .empty, .slice none 0 0] rfl hP rfl rfl (.inl (Nat.le_refl 0)) (oi _) ?_
  replace hd := hd.other hp0 hpr (cmdO v0 v1 v2 v3 0 0 0 0 0 0 false .empty (.slice none 0 0))
  replace hP := Heap.put_same F10 p (cmdO v0 v1 v2 v3 0 0 0 0 0 0 false .empty (.slice none 0 0))
  generalize F10.put p _ = F11 at hd hP ⊢
  refine short [0, 2, 4, 5] [.slice A b.length c, .pointer (some ⟨q, 0, none⟩), .pointer (some ⟨r, 0, none⟩), .pointer (some ⟨p, 0, none⟩)] rfl fun ρ => ?_
  have n4 := rdNum 2 (.inr (.inl rfl)) b A c F1 F11 r (pos b 4) (shr b 4) hr1 hd (by omega) hc
  rw [e4] at n4
  change FnK _ _ _ _ (fun v F' => _ ∧ DS F1 F' r _ b (pos b 5) (shr b 5) ∧ _) at n4
  (conv => whnf)
  refine call_of n4 ?_
  clear n4 hd
  rintro v F12 ⟨rfl, hd, hk⟩
  replace hP := hk _ _ hP (fun e => hpr (Option.some.inj e).symm)
  clear hk
  have n5 := rdNum 2 (.inr (.inl rfl)) b A c F1 F12 r (pos b 5) (shr b 5) hr1 hd (by omega) hc
  rw [e5] at n5
  change FnK _ _ _ _ (fun v F' => _ ∧ DS F1 F' r _ b (pos b 6) (shr b 6) ∧ _) at n5
  (conv => whnf)
  refine call_of n5 ?_
  clear n5 hd
  rintro v F13 ⟨rfl, hd, hk⟩
  replace hP := hk _ _ hP (fun e => hpr (Option.some.inj e).symm)
  clear hk
  have n6 := rdNum 2 (.inr (.inl rfl)) b A c F1 F13 r (pos b 6) (shr b 6) hr1 hd (by omega) hc
  rw [e6] at n6
  change FnK _ _ _ _ (fun v F' => _ ∧ DS F1 F' r _ b (pos b 7) (shr b 7) ∧ _) at n6
  (conv => whnf)
  refine call_of n6 ?_
  clear n6 hd
  rintro v F14 ⟨rfl, hd, hk⟩
  replace hP := hk _ _ hP (fun e => hpr (Option.some.inj e).symm)
  clear hk
  (conv => whnf)
  refine store_step p 4 _ #[.int .i64 v0, .int .i64 v1, .int .i64 v2, .int .i64 v3, .int .i64 v4, .int .i64 0, .int .i64 0, .int .i64 0, .int .i64 0, .int .i64 0, .bool false, .string .empty, .slice none 0 0] rfl hP rfl rfl (.inl (Nat.le_refl 0)) (oi _) ?_
  replace hd := hd.other hp0 hpr (cmdO v0 v1 v2 v3 v4 0 0 0 0 0 false .empty (.slice none 0 0))
  replace hP := Heap.put_same F14 p (cmdO v0 v1 v2 v3 v4 0 0 0 0 0 false .empty (.slice none 0 0))
  generalize F14.put p _ = F15 at hd hP ⊢
  (conv => whnf)
  refine store_step p 5 _ #[.int .i64 v0, .int .i64 v1, .int .i64 v2, .int .i64 v3, .int .i64 v4, .int .i64 v5, .int .i64 0, .int .i64 0, .int .i64 0, .int .i64 0, .bool false, .string .empty, .slice none 0 0] rfl hP rfl rfl (.inl (Nat.le_refl 0)) (oi _) ?_
  replace hd := hd.other hp0 hpr (cmdO v0 v1 v2 v3 v4 v5 0 0 0 0 false .empty (.slice none 0 0))
  replace hP := Heap.put_same F15 p (cmdO v0 v1 v2 v3 v4 v5 0 0 0 0 false .empty (.slice none 0 0))
  generalize F15.put p _ = F16 at hd hP ⊢
  (conv => whnf)
  refine store_step p 6 _ #[.int .i64 v0, .int .i64 v1, .int .i64 v2, .int .i64 v3, .int .i64 v4, .int .i64 v5, .int .i64 v6, .int .i64 0, .int .i64 0, .int .i64 0, .bool false, .string .empty, .slice none 0 0] rfl hP rfl rfl (.inl (Nat.le_refl 0)) (oi _) ?_
  replace hd := hd.other hp0 hpr (cmdO v0 v1 v2 v3 v4 v5 v6 0 0 0 false .empty (.slice none 0 0))
  replace hP := Heap.put_same F16 p (cmdO v0 v1 v2 v3 v4 v5 v6 0 0 0 false .empty (.slice none 0 0))
  generalize F16.put p _ = F17 at hd hP ⊢
  refine short [0, 2, 4, 5] [.slice A b.length c, .pointer (some ⟨q, 0, none⟩), .pointer (some ⟨r, 0, none⟩), .pointer (some ⟨p, 0, none⟩)] rfl fun ρ => ?_
  have n7 := rdNum 4 (.inr (.inr (.inl rfl))) b A c F1 F17 r (pos b 7) (shr b 7) hr1 hd (by omega) hc
  rw [e7] at n7
  change FnK _ _ _ _ (fun v F' => _ ∧ DS F1 F' r _ b (pos b 8) (shr b 8) ∧ _) at n7
  (conv => whnf)
  refine call_of n7 ?_
  clear n7 hd
  rintro v F18 ⟨rfl, hd, hk⟩
  replace hP := hk _ _ hP (fun e => hpr (Option.some.inj e).symm)
  clear hk
  have n8 := rdNum 1 (.inl rfl) b A c F1 F18 r (pos b 8) (shr b 8) hr1 hd (by omega) hc
  rw [e8] at n8
  change FnK _ _ _ _ (fun v F' => _ ∧ DS F1 F' r _ b (pos b 9) (shr b 9) ∧ _) at n8
  (conv => whnf)
  refine call_of n8 ?_
  clear n8 hd
  rintro v F19 ⟨rfl, hd, hk⟩
  replace hP := hk _ _ hP (fun e => hpr (Option.some.inj e).symm)
  clear hk
  have n9 := rdNum 8 (.inr (.inr (.inr rfl))) b A c F1 F19 r (pos b 9) (shr b 9) hr1 hd (by omega) hc
  rw [e9] at n9
  change FnK _ _ _ _ (fun v F' => _ ∧ DS F1 F' r _ b (pos b 10) (shr b 10) ∧ _) at n9
  (conv => whnf)
  refine call_of n9 ?_
  clear n9 hd
  rintro v F20 ⟨rfl, hd, hk⟩
  replace hP := hk _ _ hP (fun e => hpr (Option.some.inj e).symm)
  clear hk
  (conv => whnf)
  refine store_step p 7 _ #[.int .i64 v0, .int .i64 v1, .int .i64 v2, .int .i64 v3, .int .i64 v4, .int .i64 v5, .int .i64 v6, .int .i64 v7, .int .i64 0, .int .i64 0, .bool false, .string .empty, .slice none 0 0] rfl hP rfl rfl (.inl (Nat.le_refl 0)) (oi _) ?_
  replace hd := hd.other hp0 hpr (cmdO v0 v1 v2 v3 v4 v5 v6 v7 0 0 false .empty (.slice none 0 0))
  replace hP := Heap.put_same F20 p (cmdO v0 v1 v2 v3 v4 v5 v6 v7 0 0 false .empty (.slice none 0 0))
  generalize F20.put p _ = F21 at hd hP ⊢
  (conv => whnf)
  refine store_step p 8 _ #[.int .i64 v0, .int .i64 v1, .int .i64 v2, .int .i64 v3, .int .i64 v4, .int .i64 v5, .int .i64 v6, .int .i64 v7, .int .i64 v8, .int .i64 0, .bool false, .string .empty, .slice none 0 0] rfl hP rfl rfl (.inl (Nat.le_refl 0)) (oi _) ?_
  replace hd := hd.other hp0 hpr (cmdO v0 v1 v2 v3 v4 v5 v6 v7 v8 0 false .empty (.slice none 0 0))
  replace hP := Heap.put_same F21 p (cmdO v0 v1 v2 v3 v4 v5 v6 v7 v8 0 false .empty (.slice none 0 0))
  generalize F21.put p _ = F22 at hd hP ⊢
  (conv => whnf)
  refine store_step p 9 _ #[.int .i64 v0, .int .i64 v1, .int .i64 v2, .int .i64 v3, .int .i64 v4, .int .i64 v5, .int .i64 v6, .int .i64 v7, .int .i64 v8, .int .i64 v9, .bool false, .string .empty, .slice none 0 0] rfl hP rfl rfl (.inl (Nat.le_refl 0)) (oi _) ?_
  replace hd := hd.other hp0 hpr (cmdO v0 v1 v2 v3 v4 v5 v6 v7 v8 v9 false .empty (.slice none 0 0))
  replace hP := Heap.put_same F22 p (cmdO v0 v1 v2 v3 v4 v5 v6 v7 v8 v9 false .empty (.slice none 0 0))
  generalize F22.put p _ = F23 at hd hP ⊢
  refine short [0, 2, 4, 5] [.slice A b.length c, .pointer (some ⟨q, 0, none⟩), .pointer (some ⟨r, 0, none⟩), .pointer (some ⟨p, 0, none⟩)] rfl fun ρ => ?_
  have n10 := rdNum 1 (.inl rfl) b A c F1 F23 r (pos b 10) (shr b 10) hr1 hd (by omega) hc
  rw [e10] at n10
  change FnK _ _ _ _ (fun v F' => _ ∧ DS F1 F' r _ b (pos b 11) (shr b 11) ∧ _) at n10
  (conv => whnf)
  refine call_of n10 ?_
  clear n10 hd
  rintro v F24 ⟨rfl, hd, hk⟩
  replace hP := hk _ _ hP (fun e => hpr (Option.some.inj e).symm)
  clear hk
  have ob : ∀ v ∈ [Value.bool (v10 == 1)], v.oneCell' = true := by simp [Value.oneCell']
  (conv => whnf)
  refine store_step p 10 _ #[.int .i64 v0, .int .i64 v1, .int .i64 v2, .int .i64 v3, .int .i64 v4, .int .i64 v5, .int .i64 v6, .int .i64 v7, .int .i64 v8, .int .i64 v9, .bool (v10 == 1), .string .empty, .slice none 0 0] rfl hP rfl rfl (.inl (Nat.le_refl 0)) ob ?_
  replace hd := hd.other hp0 hpr (cmdO v0 v1 v2 v3 v4 v5 v6 v7 v8 v9 (v10 == 1) .empty (.slice none 0 0))
  replace hP := Heap.put_same F24 p (cmdO v0 v1 v2 v3 v4 v5 v6 v7 v8 v9 (v10 == 1) .empty (.slice none 0 0))
  generalize F24.put p _ = F25 at hd hP ⊢
  have n11 := rdNum 1 (.inl rfl) b A c F1 F25 r (pos b 11) (shr b 11) hr1 hd (by omega) hc
  rw [e11] at n11
  change FnK _ _ _ _ (fun v F' => _ ∧ DS F1 F' r _ b (pos b 12) (shr b 12) ∧ _) at n11
  (conv => whnf)
  refine call_of n11 ?_
  clear n11 hd
  rintro v F26 ⟨rfl, hd, hk⟩
  replace hP := hk _ _ hP (fun e => hpr (Option.some.inj e).symm)
  clear hk
  have tx := rdText t b A c F1 F26 r (pos b 12) (shr b 12) hr1 hd (by omega) hc (by omega)
  (conv => whnf)
  refine call_of tx ?_
  clear tx hd
  rintro v F27 ⟨rfl, hd, hk⟩
  replace hP := hk _ _ hP (fun e => hpr (Option.some.inj e).symm)
  clear hk
  have os : ∀ v ∈ [Value.string ⟨(txV b (pos b 12) t).toArray⟩], v.oneCell' = true := by simp [Value.oneCell']
  (conv => whnf)
  refine store_step p 11 _ #[.int .i64 v0, .int .i64 v1, .int .i64 v2, .int .i64 v3, .int .i64 v4, .int .i64 v5, .int .i64 v6, .int .i64 v7, .int .i64 v8, .int .i64 v9, .bool (v10 == 1), .string ⟨(txV b (pos b 12) t).toArray⟩, .slice none 0 0] rfl hP rfl rfl (.inl (Nat.le_refl 0)) os ?_
  replace hd := hd.other hp0 hpr (cmdO v0 v1 v2 v3 v4 v5 v6 v7 v8 v9 (v10 == 1) ⟨(txV b (pos b 12) t).toArray⟩ (.slice none 0 0))
  replace hP := Heap.put_same F27 p (cmdO v0 v1 v2 v3 v4 v5 v6 v7 v8 v9 (v10 == 1) ⟨(txV b (pos b 12) t).toArray⟩ (.slice none 0 0))
  generalize F27.put p _ = F28 at hd hP ⊢
  refine short [0, 2, 4, 5] [.slice A b.length c, .pointer (some ⟨q, 0, none⟩), .pointer (some ⟨r, 0, none⟩), .pointer (some ⟨p, 0, none⟩)] rfl fun ρ => ?_
  obtain ⟨hdw, hEw⟩ := hd.less
  have hPw : less F28 r p = _ := (less_at hpr).trans hP
  have ln := rdLines b A c (less F28 r) F28 r _ _ (hr1.mono hEw) hdw (by omega) hc
  rw [← hln] at ln
  (conv => whnf)
  refine call_of ln ?_
  clear ln hdw hP hd
  rintro S F29 ⟨hS, hd⟩
  have hP := hS.ext _ _ hPw
  have hE := hEw.trans hS.ext
  have hSp := hS.own.blk_ne hP line_cmd
  have hpw : ∀ o, Mine F1 (F29.put p o) S 59 4 L.out.length (linesV L.out) := fun o => (hS.down hEw).put hp0 hSp o
  obtain ⟨B, cc, rfl, _, _⟩ := hS.own.row
  have ol : ∀ v ∈ [Value.slice B L.out.length cc], v.oneCell' = true := by simp [Value.oneCell']
  (conv => whnf)
  refine store_step p 12 _ #[.int .i64 v0, .int .i64 v1, .int .i64 v2, .int .i64 v3, .int .i64 v4, .int .i64 v5, .int .i64 v6, .int .i64 v7, .int .i64 v8, .int .i64 v9, .bool (v10 == 1), .string ⟨(txV b (pos b 12) t).toArray⟩, .slice B L.out.length cc] rfl hP rfl rfl (.inl (Nat.le_refl 0)) ol ?_
  have hM := hpw (cmdO v0 v1 v2 v3 v4 v5 v6 v7 v8 v9 (v10 == 1) ⟨(txV b (pos b 12) t).toArray⟩ (.slice B L.out.length cc))
  have hR : (F29.put p (cmdO v0 v1 v2 v3 v4 v5 v6 v7 v8 v9 (v10 == 1) ⟨(txV b (pos b 12) t).toArray⟩ (.slice B L.out.length cc))) r = some (readerO (.slice A b.length c) L.i L.sh) := by rw [Heap.put_other _ _ hpr.symm]; exact hd.cell
  replace hP := Heap.put_same F29 p (cmdO v0 v1 v2 v3 v4 v5 v6 v7 v8 v9 (v10 == 1) ⟨(txV b (pos b 12) t).toArray⟩ (.slice B L.out.length cc))
  generalize F29.put p _ = F30 at hM hR hP ⊢
  clear hd hS hSp hpw hPw hEw hE
  have hRow : RowAt F30 B (linesV L.out) := by
    obtain ⟨B', c', h1, _, h2⟩ := hM.own.row
    injection h1 with h1
    subst h1
    exact h2
  have hEF := hE1.trans hM.ext
  have hQ2 := hM.ext _ _ hQ
  have hqp : q ≠ p := fun e => by rw [e, hp0] at hQ; cases hQ
  have hEc := fun G hg => encode v0 v1 v2 v3 v4 v5 v6 v7 v8 v9 (v10 == 1) (txV b (pos b 12) t) L.out B cc G hg (by omega) (by omega)
  rw [← hdef] at hEc
  refine short [0, 2, 4, 5] [.slice A b.length c, .pointer (some ⟨q, 0, none⟩), .pointer (some ⟨r, 0, none⟩), .pointer (some ⟨p, 0, none⟩)] rfl fun ρ => ?_
  have oz : ∀ v ∈ [Value.int .i64 0, .int .i64 0, .int .i64 0, .int .i64 0, .int .i64 0, .int .i64 0, .int .i64 0, .int .i64 0, .int .i64 0, .int .i64 0, .bool false, .string .empty, .slice none 0 0], v.oneCell' = true := by simp [Value.oneCell']
  have no : ∀ F', okD b = false → Ext F F' → Dec (if okD b then cmdOf b else zeroC) (if okD b then 0 else 14) (.tuple #[.agg (cmdC 0 0 0 0 0 0 0 0 0 0 false .empty (.slice none 0 0)), .int .i64 14]) F' ∧ Ext F F' := by
    intro F' h hX
    rw [h]
    exact ⟨⟨none, 0, rfl, RowAt.nil _ _⟩, hX⟩
  (conv => whnf)
  refine ⟨⟨_, _, _, hP, rfl, Nat.le_refl 13, ?_⟩⟩
  (conv => whnf)
  refine call_of (hEc F30 hRow) ?_
  rintro v F50 ⟨⟨own, rfl, hown⟩, hE50⟩
  have hR50 := hE50 _ _ hR
  have hP50 := hE50 _ _ hP
  have hQ50 := hE50 _ _ hQ2
  have hRow50 := hRow.mono hE50
  have hr50 := hr.mono (hEF.trans hE50)
  have hEF50 := hEF.trans hE50
  have fin : ∀ (F' : Heap), Ext F50 F' → Ext F (F'.put q (cmdO 0 0 0 0 0 0 0 0 0 0 false .empty (.slice none 0 0))) := fun F' h => (hEF50.trans h).put hq _
  generalize hsh : L.sh = sh at hok hR50
  cases sh with
  | true =>
    have hbad : okD b = false := hok
    (conv => whnf)
    refine load_blk hR50 rfl rfl ?_
    (conv => whnf)
    refine store_step q 0 _ (cmdC 0 0 0 0 0 0 0 0 0 0 false .empty (.slice none 0 0)) rfl hQ50 rfl rfl (.inl (Nat.le_refl 0)) oz ?_
    (conv => whnf)
    refine res_cells tab_ok rfl rfl (Heap.put_same _ _ _) rfl ?_
    (conv => whnf)
    exact no _ hbad (fin _ (Ext.refl _))
  | false =>
  generalize mayB (cmdOf b) = mb at hok hown
  cases mb with
  | false =>
    have hbad : okD b = false := hok
    (conv => whnf)
    refine load_blk hR50 rfl rfl ?_
    (conv => whnf)
    refine store_step q 0 _ (cmdC 0 0 0 0 0 0 0 0 0 0 false .empty (.slice none 0 0)) rfl hQ50 rfl rfl (.inl (Nat.le_refl 0)) oz ?_
    (conv => whnf)
    refine res_cells tab_ok rfl rfl (Heap.put_same _ _ _) rfl ?_
    (conv => whnf)
    exact no _ hbad (fin _ (Ext.refl _))
  | true =>
  obtain ⟨O, oc', rfl, _, hOr⟩ := hown
  have hbe := bytesEqual (encB (cmdOf b)) b O A oc' c F50 hOr hr50
  change _ = (true && (true && (encB (cmdOf b) == b))) at hok
  rw [Bool.true_and, Bool.true_and] at hok
  rw [← hok] at hbe
  (conv => whnf)
  refine load_blk hR50 rfl rfl ?_
  (conv => whnf)
  refine call_of hbe ?_
  rintro v F50 ⟨rfl, rfl⟩
  generalize hz : okD b = z at hok no ⊢
  cases z with
  | false =>
    (conv => whnf)
    refine store_step q 0 _ (cmdC 0 0 0 0 0 0 0 0 0 0 false .empty (.slice none 0 0)) rfl hQ50 rfl rfl (.inl (Nat.le_refl 0)) oz ?_
    (conv => whnf)
    refine res_cells tab_ok rfl rfl (Heap.put_same _ _ _) rfl ?_
    (conv => whnf)
    exact no _ rfl (fin _ (Ext.refl _))
  | true =>
    have of : ∀ v ∈ [Value.int .i64 v0, .int .i64 v1, .int .i64 v2, .int .i64 v3, .int .i64 v4, .int .i64 v5, .int .i64 v6, .int .i64 v7, .int .i64 v8, .int .i64 v9, .bool (v10 == 1), .string ⟨(txV b (pos b 12) t).toArray⟩, .slice B L.out.length cc], v.oneCell' = true := by simp [Value.oneCell']
    (conv => whnf)
    refine ⟨⟨_, _, _, hP50, rfl, Nat.le_refl 13, ?_⟩⟩
    (conv => whnf)
    refine store_step q 0 _ #[.int .i64 v0, .int .i64 v1, .int .i64 v2, .int .i64 v3, .int .i64 v4, .int .i64 v5, .int .i64 v6, .int .i64 v7, .int .i64 v8, .int .i64 v9, .bool (v10 == 1), .string ⟨(txV b (pos b 12) t).toArray⟩, .slice B L.out.length cc] rfl hQ50 rfl rfl (.inl (Nat.le_refl 0)) of ?_
    (conv => whnf)
    refine res_cells tab_ok rfl rfl (Heap.put_same _ _ _) rfl ?_
    (conv => whnf)
    refine ⟨⟨B, cc, ?_, ?_⟩, hEF50.put hq _⟩
    · rw [if_pos rfl, hdef]
      rfl
    · rw [if_pos rfl, hdef]
      refine row_keeps hRow50 (fun a ha e => ?_) (Keeps.put _ _ _)
      subst ha
      have := (hM.mono hE50).own.blk_ne hQ50 line_cmd
      exact this (congrArg some e)
end Go.Proofs.Ytkahpaipciooiac.Al

/- The reference's disks: what they are in memory; exchequerref03.New, full, has, Fuse and Read. -/
import Derived.Test.YtlkdbmoocajjlaaDskOpen
namespace Go.Proofs.Ytlkdbmoocajjlaa.Al
open Go Go.Al Go.Proofs Go.RowKit
set_option maxHeartbeats 8000000
set_option maxRecDepth 100000
set_option linter.unusedVariables false
set_option linter.unusedSimpArgs false
/-- A sector as told. -/
structure OD where
  s : List UInt8
  l : List UInt8
  t : Int
structure RS where
  L : List OD
  turn : Int
  done : Int
  arm : Int
  armed : Bool
  down : Bool
/-- A sector as it lies in memory. -/
structure OR where
  s : List UInt8
  l : List UInt8
  t : Int
  sA : Option Addr
  sc : Nat
  lA : Option Addr
  lc : Nat
def orC (o : OR) : List Value := [.slice o.sA o.s.length o.sc, .slice o.lA o.l.length o.lc, .int .i64 o.t]
theorem orC_len (o : OR) : (orC o).length = 3 := rfl
def od (o : OR) : OD := ⟨o.s, o.l, o.t⟩
structure OrOk (G : Heap) (o : OR) : Prop where
  s : RowAt G o.sA (bytesOf o.s)
  l : RowAt G o.lA (bytesOf o.l)
  sc : o.s.length ≤ o.sc
  lc : o.l.length ≤ o.lc
  sn : o.s.length = 0 ∨ o.s.length = 256
  ln : o.l.length = 0 ∨ o.l.length = 256
theorem OrOk.mono {F G : Heap} {o : OR} (h : OrOk F o) (hE : Ext F G) : OrOk G o := ⟨h.s.mono hE, h.l.mono hE, h.sc, h.lc, h.sn, h.ln⟩
abbrev rdC (S : Value) (turn done arm : Int) (armed down : Bool) : Array Value := #[S, .int .i64 turn, .int .i64 done, .int .i64 arm, .bool armed, .bool down]
abbrev rdO (S : Value) (turn done arm : Int) (armed down : Bool) : Obj := .cells (rdC S turn done arm armed down) 41
abbrev osO (os : List OR) : Obj := .cells (rowS orC os).toArray 72
structure RWf (r : RS) : Prop where
  len : 3 ≤ r.L.length ∧ r.L.length ≤ 65536
  turn : 0 ≤ r.turn ∧ r.turn ≤ r.done
  done : r.done ≤ 1000000000
  arm : 0 ≤ r.arm ∧ r.arm ≤ 9223372036854775807
  ts : ∀ o ∈ r.L, 0 ≤ o.t ∧ o.t ≤ r.turn
structure RkP (D : Heap) (b q : Nat) (os : List OR) (G : Heap) (r : RS) : Prop where
  cell : D b = some (rdO (.slice (some ⟨q, 0, none⟩) os.length os.length) r.turn r.done r.arm r.armed r.down)
  row : D q = some (osO os)
  L : r.L = os.map od
  base : Ext G D
  gb : G b = none
  gq : G q = none
  bq : b ≠ q
  ok : ∀ o ∈ os, OrOk G o
def Rk (D : Heap) (b : Nat) (r : RS) : Prop := RWf r ∧ ∃ q os G, RkP D b q os G r
theorem RkP.nums {D : Heap} {b q : Nat} {os : List OR} {G : Heap} {r : RS} (h : RkP D b q os G r) (tn dn am : Int) (ad dw : Bool) :
    RkP (D.put b (rdO (.slice (some ⟨q, 0, none⟩) os.length os.length) tn dn am ad dw)) b q os G { r with turn := tn, done := dn, arm := am, armed := ad, down := dw } :=
  ⟨Heap.put_same _ _ _, by rw [Heap.put_other _ _ (Ne.symm h.bq)]; exact h.row, h.L, h.base.put h.gb _, h.gb, h.gq, h.bq, h.ok⟩
/-- A sector is another one. -/
theorem RkP.set {D : Heap} {b q : Nat} {os : List OR} {G : Heap} {r : RS} (h : RkP D b q os G r) (i : Nat) (o : OR) (ho : OrOk G o) :
    RkP (D.put q (osO (os.set i o))) b q (os.set i o) G { r with L := r.L.set i (od o) } :=
  ⟨by rw [Heap.put_other _ _ h.bq, List.length_set]; exact h.cell, Heap.put_same _ _ _, by show r.L.set i (od o) = _; rw [h.L, List.map_set], h.base.put h.gq _, h.gb, h.gq, h.bq, fun x hx => by
    rcases List.mem_or_eq_of_mem_set hx with hx | rfl
    · exact h.ok x hx
    · exact ho⟩
def newR (n : Nat) : RS := ⟨List.replicate n ⟨[], [], 0⟩, 0, 0, 0, false, false⟩
abbrev o0 : OR := ⟨[], [], 0, none, 0, none, 0⟩
theorem zeros_os (n : Nat) : zerosL [.slice none 0 0, .slice none 0 0, .int .i64 0] n = rowS orC (List.replicate n o0) := by
  induction n with
  | zero => rfl
  | succ n ih =>
    rw [List.replicate_succ, rowS_cons, ← ih]
    rfl
theorem rnew (n : Int) (F : Heap) : FnK Try.prog 8 #[.int .i64 n] F (fun v F' => ((n < 3 ∨ n > 65536) ∧ v = .tuple #[.pointer none, .int .i64 1] ∧ F' = F) ∨
    (3 ≤ n ∧ n ≤ 65536 ∧ ∃ b D', v = .tuple #[.pointer (some ⟨b, 0, none⟩), .int .i64 0] ∧ Moves emptyH F D' F' ∧ Rk D' b (newR n.toNat))) := by
  (refine fn_walk tab_ok Try.func8 rfl rfl rfl rfl ?_; (conv => whnf))
  refine cond_split (fun h => ?_) (fun h => ?_)
  case refine_2 =>
    have h : (!decide (n < 3)) = false := h
    have h3 : n < 3 := by simpa using h
    (conv => whnf)
    exact .inl ⟨.inl h3, rfl, rfl⟩
  have h : (!decide (n < 3)) = true := h
  have h3 : ¬ n < 3 := by simpa using h
  (conv => whnf)
  refine cond_split (fun h => ?_) (fun h => ?_)
  · have h : decide (n > 65536) = true := h
    (conv => whnf)
    exact .inl ⟨.inr (of_decide_eq_true h), rfl, rfl⟩
  have h : decide (n > 65536) = false := h
  have h4 := of_decide_eq_false h
  obtain ⟨m, rfl⟩ : ∃ m : Nat, n = m := ⟨n.toNat, by omega⟩
  (conv => whnf)
  refine make_rows tab_ok m rfl rfl rfl rfl rfl (zc := #[.slice none 0 0, .slice none 0 0, .int .i64 0]) ⟨rfl, by decide, _, rfl, rfl⟩ (by show m * 56 ≤ _; omega) (by omega) (by decide) fun q hq => ?_
  have M1 := Moves.put (emptyH_ext F) (.inr hq) (.cells (zerosL (#[.slice none 0 0, .slice none 0 0, .int .i64 0] : Array Value).toList m).toArray 72)
  have A1 := Heap.put_same F q (.cells (zerosL (#[.slice none 0 0, .slice none 0 0, .int .i64 0] : Array Value).toList m).toArray 72)
  generalize F.put q _ = F1 at M1 A1 ⊢
  (conv => whnf)
  refine new_step (rdO (.slice (some ⟨q, 0, none⟩) m m) 0 0 0 false false) rfl fun b hb => ?_
  have M2 := M1.trans (Moves.put M1.inn (.inr hb) (rdO (.slice (some ⟨q, 0, none⟩) m m) 0 0 0 false false))
  have hne : b ≠ q := fun e => by rw [← e, hb] at A1; cases A1
  (conv => whnf)
  refine .inr ⟨by omega, by omega, b, _, rfl, M2, ⟨⟨by show 3 ≤ (List.replicate _ _).length; rw [List.length_replicate]; omega, by show (List.replicate _ _).length ≤ _; rw [List.length_replicate]; omega⟩, ⟨(by decide : (0 : Int) ≤ 0), (by decide : (0 : Int) ≤ 0)⟩, (by decide : (0 : Int) ≤ 1000000000), ⟨(by decide : (0 : Int) ≤ 0), (by decide : (0 : Int) ≤ 9223372036854775807)⟩, fun o ho => by
    obtain rfl := List.eq_of_mem_replicate ho
    exact ⟨(by decide : (0 : Int) ≤ 0), (by decide : (0 : Int) ≤ 0)⟩⟩, q, List.replicate m o0, emptyH, ?_⟩
  refine ⟨?_, ?_, ?_, emptyH_ext _, rfl, rfl, hne, fun o ho => ?_⟩
  · rw [Heap.put_same, List.length_replicate]; rfl
  · rw [Heap.put_other _ _ (Ne.symm hne), Heap.put_same]
    exact congrArg (fun l => some (Obj.cells (List.toArray l) 72)) (zeros_os m)
  · show List.replicate _ _ = _
    rw [List.map_replicate, Int.toNat_natCast]; rfl
  · obtain rfl := List.eq_of_mem_replicate ho
    exact ⟨RowAt.nil _ _, RowAt.nil _ _, Nat.le_refl _, Nat.le_refl _, .inl rfl, .inl rfl⟩
def fullB (l : List UInt8) : List UInt8 := l ++ List.replicate (256 - l.length) 0
theorem full (l : List UInt8) (A : Option Addr) (c : Nat) (F : Heap) (hr : RowAt F A (bytesOf l)) (hl : l.length ≤ 256) : FnK Try.prog 70 #[.slice A l.length c] F (fun v F' => NewRow F F' v (fullB l) ∧ Ext F F') := by
  (refine fn_walk tab_ok Try.func70 rfl rfl rfl rfl ?_; (conv => whnf))
  refine make_one tab_ok 256 256 rfl rfl rfl rfl rfl ⟨rfl, by decide, _, rfl, rfl⟩ (Nat.le_refl _) (by decide) fun g hg => ?_
  have hB := Heap.put_same F g (.cells (List.replicate 256 (Value.int .u8 0)).toArray 5)
  have hE := Ext.new hg (.cells (List.replicate 256 (Value.int .u8 0)).toArray 5)
  generalize F.put g _ = F1 at hB hE ⊢
  ((conv => whnf); repeat (first | (apply load_at; (conv => lhs; whnf); (with_reducible assumption); rfl; (conv => whnf)) | (apply load_at; (conv => lhs; rw [add_plain, add_plain]); (with_reducible assumption); rfl; (conv => whnf)) | (apply loads_at; (conv => lhs; whnf); (with_reducible assumption); rfl; (conv => whnf)) | (refine ⟨⟨by omega, by omega⟩, ?_⟩; (conv => whnf))))
  refine copy_to (g := g) (off := 0) (dl := 256) (dc := 256) (m := l.length) (ys := bytesOf l) (y := .slice A l.length c) tab_ok rfl rfl rfl rfl rfl rfl ⟨by simp [bytesOf], .inl ⟨_, _, rfl, hr.mono hE⟩⟩ hB (Nat.le_refl 0) (by simp) (hone_bytes l) ?_
  have hB2 := Heap.put_same F1 g (.cells (putL (List.replicate 256 (Value.int .u8 0)).toArray.toList 0 ((bytesOf l).take (min l.length 256))).toArray 5)
  have hE2 := hE.put hg (.cells (putL (List.replicate 256 (Value.int .u8 0)).toArray.toList 0 ((bytesOf l).take (min l.length 256))).toArray 5)
  generalize F1.put g _ = F2 at hB2 hE2 ⊢
  ((conv => whnf); repeat (first | (apply load_at; (conv => lhs; whnf); (with_reducible assumption); rfl; (conv => whnf)) | (apply load_at; (conv => lhs; rw [add_plain, add_plain]); (with_reducible assumption); rfl; (conv => whnf)) | (apply loads_at; (conv => lhs; whnf); (with_reducible assumption); rfl; (conv => whnf)) | (refine ⟨⟨by omega, by omega⟩, ?_⟩; (conv => whnf))))
  have hlen : (fullB l).length = 256 := by unfold fullB; rw [List.length_append, List.length_replicate]; omega
  refine ⟨⟨some ⟨g, 0, none⟩, 256, by rw [hlen]; rfl, by rw [hlen]; exact Nat.le_refl _, ?_, fun a ha => by obtain rfl := Option.some.inj ha; exact hg⟩, hE2⟩
  have := row_blk hB2
  rw [List.toList_toArray] at this
  have e : putL (List.replicate 256 (Value.int .u8 0)).toArray.toList 0 ((bytesOf l).take (min l.length 256)) = bytesOf (fullB l) := by
    rw [putL_eq _ _ _ (by simp [bytesOf]; omega), List.take_zero, List.nil_append, List.toList_toArray, Nat.min_eq_left hl, List.take_of_length_le (by simp [bytesOf]), Nat.zero_add, List.drop_replicate]
    unfold fullB
    rw [bytes_app, bytes_len, zeros_bytes]
  rw [e] at this
  exact this
theorem rhas (x : List Int) (n : Int) (A : Option Addr) (c : Nat) (F : Heap) (hr : RowAt F A (x.map (.int .i64))) (hl : x.length ≤ 900000) : FnK Try.prog 71 #[.slice A x.length c, .int .i64 n] F (fun v F' => v = .bool (decide (n ∈ x)) ∧ F' = F) := by
  (refine fn_walk tab_ok Try.func71 rfl rfl rfl rfl ?_; (conv => whnf))
  refine loop_slots [0, 1, 5] (fun k vs F' => ∃ j : Nat, j + k = x.length ∧ vs = [.slice A x.length c, .int .i64 n, .int .i64 (j : Int)] ∧ decide (n ∈ x) = decide (n ∈ x.drop j) ∧ F' = F) x.length ⟨0, by omega, rfl, rfl, rfl⟩ ?_
  rintro k vs F2 ρ ⟨j, hjk, rfl, htk, rfl⟩
  ((conv => whnf); repeat (first | (apply load_at; (conv => lhs; whnf); (with_reducible assumption); rfl; (conv => whnf)) | (apply load_at; (conv => lhs; rw [add_plain, add_plain]); (with_reducible assumption); rfl; (conv => whnf)) | (apply loads_at; (conv => lhs; whnf); (with_reducible assumption); rfl; (conv => whnf)) | (refine ⟨⟨by omega, by omega⟩, ?_⟩; (conv => whnf))))
  refine cond_split (fun h => ?_) (fun h => ?_)
  · have hj : j < x.length := by have := of_decide_eq_true h; omega
    obtain ⟨ad, rfl⟩ := hr.some (by simp; omega)
    have hxj : x[j]? = some x[j] := List.getElem?_eq_getElem hj
    have hdr : x.drop j = x[j] :: x.drop (j + 1) := (List.drop_eq_getElem_cons hj)
    rw [hdr] at htk
    generalize x[j] = y at hxj htk
    ((conv => whnf); repeat (first | (apply load_at; (conv => lhs; whnf); (with_reducible assumption); rfl; (conv => whnf)) | (apply load_at; (conv => lhs; rw [add_plain, add_plain]); (with_reducible assumption); rfl; (conv => whnf)) | (apply loads_at; (conv => lhs; whnf); (with_reducible assumption); rfl; (conv => whnf)) | (refine ⟨⟨by omega, by omega⟩, ?_⟩; (conv => whnf))))
    refine load_step (v := .int .i64 y) ?_ ?_
    · show F2.cell? (ad.add (Int.toNat (j : Int) * 1)) = _
      rw [Int.toNat_natCast, Nat.mul_one]
      exact hr.cell (by simp [hxj])
    ((conv => whnf); repeat (first | (apply load_at; (conv => lhs; whnf); (with_reducible assumption); rfl; (conv => whnf)) | (apply load_at; (conv => lhs; rw [add_plain, add_plain]); (with_reducible assumption); rfl; (conv => whnf)) | (apply loads_at; (conv => lhs; whnf); (with_reducible assumption); rfl; (conv => whnf)) | (refine ⟨⟨by omega, by omega⟩, ?_⟩; (conv => whnf))))
    refine cond_split (fun h => ?_) (fun h => ?_)
    · have h : (y == n) = true := h
      have h : y = n := by simpa using h
      rw [decide_eq_true (show n ∈ y :: x.drop (j + 1) by rw [h]; exact List.mem_cons_self)] at htk
      ((conv => whnf); repeat (first | (apply load_at; (conv => lhs; whnf); (with_reducible assumption); rfl; (conv => whnf)) | (apply load_at; (conv => lhs; rw [add_plain, add_plain]); (with_reducible assumption); rfl; (conv => whnf)) | (apply loads_at; (conv => lhs; whnf); (with_reducible assumption); rfl; (conv => whnf)) | (refine ⟨⟨by omega, by omega⟩, ?_⟩; (conv => whnf))))
      exact ⟨congrArg Value.bool htk.symm, rfl⟩
    · have h : (y == n) = false := h
      have h : ¬ y = n := by simpa using h
      have e : decide (n ∈ y :: x.drop (j + 1)) = decide (n ∈ x.drop (j + 1)) := decide_eq_decide.2 ⟨fun m => (List.mem_cons.1 m).resolve_left (fun e => h e.symm), List.mem_cons_of_mem _⟩
      rw [e] at htk
      ((conv => whnf); repeat (first | (apply load_at; (conv => lhs; whnf); (with_reducible assumption); rfl; (conv => whnf)) | (apply load_at; (conv => lhs; rw [add_plain, add_plain]); (with_reducible assumption); rfl; (conv => whnf)) | (apply loads_at; (conv => lhs; whnf); (with_reducible assumption); rfl; (conv => whnf)) | (refine ⟨⟨by omega, by omega⟩, ?_⟩; (conv => whnf))))
      refine ⟨k - 1, by omega, j + 1, by omega, ?_, htk, rfl⟩
      rw [← wrap_succ (j := j) (by omega)]
      rfl
  · have hj : j = x.length := by have := of_decide_eq_false h; omega
    subst hj
    rw [List.drop_length] at htk
    have htk : decide (n ∈ x) = false := by rw [htk]; simp
    ((conv => whnf); repeat (first | (apply load_at; (conv => lhs; whnf); (with_reducible assumption); rfl; (conv => whnf)) | (apply load_at; (conv => lhs; rw [add_plain, add_plain]); (with_reducible assumption); rfl; (conv => whnf)) | (apply loads_at; (conv => lhs; whnf); (with_reducible assumption); rfl; (conv => whnf)) | (refine ⟨⟨by omega, by omega⟩, ?_⟩; (conv => whnf))))
    exact ⟨congrArg Value.bool htk.symm, rfl⟩
theorem rfuse {D F : Heap} {b : Nat} {r : RS} (hE : Ext D F) (hD : Rk D b r) (i : Int) (hi : i ≤ 9223372036854775807) :
    FnK Try.prog 40 #[.pointer (some ⟨b, 0, none⟩), .int .i64 i] F (fun v F' => v = .tuple #[] ∧ ∃ D', Moves D F D' F' ∧ Rk D' b { r with armed := decide (i ≥ 0), arm := max i 0 }) := by
  obtain ⟨hw, q, os, G, hP⟩ := hD
  have hb := hE _ _ hP.cell
  have hmx : (if 0 > i then 0 else i) = max i 0 := by omega
  (refine fn_walk tab_ok Try.func40 rfl rfl rfl rfl ?_; (conv => whnf))
  ((conv => whnf); repeat (first | (apply load_at; (conv => lhs; whnf); (with_reducible assumption); rfl; (conv => whnf)) | (apply load_at; (conv => lhs; rw [add_plain, add_plain]); (with_reducible assumption); rfl; (conv => whnf)) | (apply loads_at; (conv => lhs; whnf); (with_reducible assumption); rfl; (conv => whnf)) | (refine ⟨⟨by omega, by omega⟩, ?_⟩; (conv => whnf))))
  refine store_step b 4 _ (rdC (.slice (some ⟨q, 0, none⟩) os.length os.length) r.turn r.done r.arm (decide (i ≥ 0)) r.down) rfl hb rfl rfl (.inl (Nat.le_refl 0)) (one_bool _) ?_
  have hb2 := Heap.put_same F b (rdO (.slice (some ⟨q, 0, none⟩) os.length os.length) r.turn r.done r.arm (decide (i ≥ 0)) r.down)
  ((conv => whnf); repeat (first | (apply load_at; (conv => lhs; whnf); (with_reducible assumption); rfl; (conv => whnf)) | (apply load_at; (conv => lhs; rw [add_plain, add_plain]); (with_reducible assumption); rfl; (conv => whnf)) | (apply loads_at; (conv => lhs; whnf); (with_reducible assumption); rfl; (conv => whnf)) | (refine ⟨⟨by omega, by omega⟩, ?_⟩; (conv => whnf))))
  refine store_step b 3 _ (rdC (.slice (some ⟨q, 0, none⟩) os.length os.length) r.turn r.done (max i 0) (decide (i ≥ 0)) r.down) rfl hb2 ((rfl : _ = rdC (.slice (some ⟨q, 0, none⟩) os.length os.length) r.turn r.done (if 0 > i then 0 else i) (decide (i ≥ 0)) r.down).trans (congrArg (fun z => rdC (.slice (some ⟨q, 0, none⟩) os.length os.length) r.turn r.done z (decide (i ≥ 0)) r.down) hmx)) rfl (.inl (Nat.le_refl 0)) (one_int _ _) ?_
  ((conv => whnf); repeat (first | (apply load_at; (conv => lhs; whnf); (with_reducible assumption); rfl; (conv => whnf)) | (apply load_at; (conv => lhs; rw [add_plain, add_plain]); (with_reducible assumption); rfl; (conv => whnf)) | (apply loads_at; (conv => lhs; whnf); (with_reducible assumption); rfl; (conv => whnf)) | (refine ⟨⟨by omega, by omega⟩, ?_⟩; (conv => whnf))))
  rw [Heap.put_put]
  exact ⟨rfl, _, Moves.put hE (.inl (by rw [hP.cell]; simp)) _, ⟨hw.len, hw.turn, hw.done, ⟨(by omega : 0 ≤ max i 0), (by omega : max i 0 ≤ 9223372036854775807)⟩, hw.ts⟩, q, os, G, hP.nums r.turn r.done (max i 0) (decide (i ≥ 0)) r.down⟩
end Go.Proofs.Ytlkdbmoocajjlaa.Al

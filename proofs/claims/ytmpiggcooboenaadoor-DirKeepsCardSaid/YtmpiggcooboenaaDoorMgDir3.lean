/- Texts of this claim, joined: DskF DskG DskH DskI DskJ DskK DskL DskSafe DskM DskN RedB AlGrow RedC RedD RedE RedF RedG RedH. -/
import Derived.Test.YtmpiggcooboenaaDoorMgDir1
import Derived.Test.YtmpiggcooboenaaDoorMgDir2
/- The reference's disks: what they are in memory; exchequerref03.New, full, has, Fuse and Read. -/
namespace Go.Proofs.YtmpiggcooboenaaDoor.Al
open Go Go.Al Go.Proofs Go.RowKit
set_option maxHeartbeats 8000000
set_option maxRecDepth 100000
set_option linter.unusedVariables false
set_option linter.unusedSimpArgs false
/-- A sector as told. -/
structure OD where
  s : List UInt8
  l : List UInt8
  t : Int
structure RS where
  L : List OD
  turn : Int
  done : Int
  arm : Int
  armed : Bool
  down : Bool
/-- A sector as it lies in memory. -/
structure OR where
  s : List UInt8
  l : List UInt8
  t : Int
  sA : Option Addr
  sc : Nat
  lA : Option Addr
  lc : Nat
def orC (o : OR) : List Value := [.slice o.sA o.s.length o.sc, .slice o.lA o.l.length o.lc, .int .i64 o.t]
theorem orC_len (o : OR) : (orC o).length = 3 := rfl
def od (o : OR) : OD := ⟨o.s, o.l, o.t⟩
structure OrOk (G : Heap) (o : OR) : Prop where
  s : RowAt G o.sA (bytesOf o.s)
  l : RowAt G o.lA (bytesOf o.l)
  sc : o.s.length ≤ o.sc
  lc : o.l.length ≤ o.lc
  sn : o.s.length = 0 ∨ o.s.length = 256
  ln : o.l.length = 0 ∨ o.l.length = 256
theorem OrOk.mono {F G : Heap} {o : OR} (h : OrOk F o) (hE : Ext F G) : OrOk G o := ⟨h.s.mono hE, h.l.mono hE, h.sc, h.lc, h.sn, h.ln⟩
abbrev rdC (S : Value) (turn done arm : Int) (armed down : Bool) : Array Value := #[S, .int .i64 turn, .int .i64 done, .int .i64 arm, .bool armed, .bool down]
abbrev rdO (S : Value) (turn done arm : Int) (armed down : Bool) : Obj := .cells (rdC S turn done arm armed down) 87
abbrev osO (os : List OR) : Obj := .cells (rowS orC os).toArray 137
structure RWf (r : RS) : Prop where
  len : 3 ≤ r.L.length ∧ r.L.length ≤ 65536
  turn : 0 ≤ r.turn ∧ r.turn ≤ r.done
  done : r.done ≤ 1000000000
  arm : 0 ≤ r.arm ∧ r.arm ≤ 9223372036854775807
  ts : ∀ o ∈ r.L, 0 ≤ o.t ∧ o.t ≤ r.turn
structure RkP (D : Heap) (b q : Nat) (os : List OR) (G : Heap) (r : RS) : Prop where
  cell : D b = some (rdO (.slice (some ⟨q, 0, none⟩) os.length os.length) r.turn r.done r.arm r.armed r.down)
  row : D q = some (osO os)
  L : r.L = os.map od
  base : Ext G D
  gb : G b = none
  gq : G q = none
  bq : b ≠ q
  ok : ∀ o ∈ os, OrOk G o
def Rk (D : Heap) (b : Nat) (r : RS) : Prop := RWf r ∧ ∃ q os G, RkP D b q os G r
theorem RkP.nums {D : Heap} {b q : Nat} {os : List OR} {G : Heap} {r : RS} (h : RkP D b q os G r) (tn dn am : Int) (ad dw : Bool) :
    RkP (D.put b (rdO (.slice (some ⟨q, 0, none⟩) os.length os.length) tn dn am ad dw)) b q os G { r with turn := tn, done := dn, arm := am, armed := ad, down := dw } :=
  ⟨Heap.put_same _ _ _, by rw [Heap.put_other _ _ (Ne.symm h.bq)]; exact h.row, h.L, h.base.put h.gb _, h.gb, h.gq, h.bq, h.ok⟩
/-- A sector is another one. -/
theorem RkP.set {D : Heap} {b q : Nat} {os : List OR} {G : Heap} {r : RS} (h : RkP D b q os G r) (i : Nat) (o : OR) (ho : OrOk G o) :
    RkP (D.put q (osO (os.set i o))) b q (os.set i o) G { r with L := r.L.set i (od o) } :=
  ⟨by rw [Heap.put_other _ _ h.bq, List.length_set]; exact h.cell, Heap.put_same _ _ _, by show r.L.set i (od o) = _; rw [h.L, List.map_set], h.base.put h.gq _, h.gb, h.gq, h.bq, fun x hx => by
    rcases List.mem_or_eq_of_mem_set hx with hx | rfl
    · exact h.ok x hx
    · exact ho⟩
def newR (n : Nat) : RS := ⟨List.replicate n ⟨[], [], 0⟩, 0, 0, 0, false, false⟩
abbrev o0 : OR := ⟨[], [], 0, none, 0, none, 0⟩
theorem zeros_os (n : Nat) : zerosL [.slice none 0 0, .slice none 0 0, .int .i64 0] n = rowS orC (List.replicate n o0) := by
  induction n with
  | zero => rfl
  | succ n ih =>
    rw [List.replicate_succ, rowS_cons, ← ih]
    rfl
theorem rnew (n : Int) (F : Heap) : FnK Tryd.prog 33 #[.int .i64 n] F (fun v F' => ((n < 3 ∨ n > 65536) ∧ v = .tuple #[.pointer none, .int .i64 1] ∧ F' = F) ∨
    (3 ≤ n ∧ n ≤ 65536 ∧ ∃ b D', v = .tuple #[.pointer (some ⟨b, 0, none⟩), .int .i64 0] ∧ Moves emptyH F D' F' ∧ Rk D' b (newR n.toNat))) := by
  (refine fn_walk tab_ok Tryd.func33 rfl rfl rfl rfl ?_; (conv => whnf))
  refine cond_split (fun h => ?_) (fun h => ?_)
  case refine_2 =>
    have h : (!decide (n < 3)) = false := h
    have h3 : n < 3 := by simpa using h
    (conv => whnf)
    exact .inl ⟨.inl h3, rfl, rfl⟩
  have h : (!decide (n < 3)) = true := h
  have h3 : ¬ n < 3 := by simpa using h
  (conv => whnf)
  refine cond_split (fun h => ?_) (fun h => ?_)
  · have h : decide (n > 65536) = true := h
    (conv => whnf)
    exact .inl ⟨.inr (of_decide_eq_true h), rfl, rfl⟩
  have h : decide (n > 65536) = false := h
  have h4 := of_decide_eq_false h
  obtain ⟨m, rfl⟩ : ∃ m : Nat, n = m := ⟨n.toNat, by omega⟩
  (conv => whnf)
  refine make_rows tab_ok m rfl rfl rfl rfl rfl (zc := #[.slice none 0 0, .slice none 0 0, .int .i64 0]) ⟨rfl, by decide, _, rfl, rfl⟩ (by show m * 56 ≤ _; omega) (by omega) (by decide) fun q hq => ?_
  have M1 := Moves.put (emptyH_ext F) (.inr hq) (.cells (zerosL (#[.slice none 0 0, .slice none 0 0, .int .i64 0] : Array Value).toList m).toArray 137)
  have A1 := Heap.put_same F q (.cells (zerosL (#[.slice none 0 0, .slice none 0 0, .int .i64 0] : Array Value).toList m).toArray 137)
  generalize F.put q _ = F1 at M1 A1 ⊢
  (conv => whnf)
  refine new_step (rdO (.slice (some ⟨q, 0, none⟩) m m) 0 0 0 false false) rfl fun b hb => ?_
  have M2 := M1.trans (Moves.put M1.inn (.inr hb) (rdO (.slice (some ⟨q, 0, none⟩) m m) 0 0 0 false false))
  have hne : b ≠ q := fun e => by rw [← e, hb] at A1; cases A1
  (conv => whnf)
  refine .inr ⟨by omega, by omega, b, _, rfl, M2, ⟨⟨by show 3 ≤ (List.replicate _ _).length; rw [List.length_replicate]; omega, by show (List.replicate _ _).length ≤ _; rw [List.length_replicate]; omega⟩, ⟨(by decide : (0 : Int) ≤ 0), (by decide : (0 : Int) ≤ 0)⟩, (by decide : (0 : Int) ≤ 1000000000), ⟨(by decide : (0 : Int) ≤ 0), (by decide : (0 : Int) ≤ 9223372036854775807)⟩, fun o ho => by
    obtain rfl := List.eq_of_mem_replicate ho
    exact ⟨(by decide : (0 : Int) ≤ 0), (by decide : (0 : Int) ≤ 0)⟩⟩, q, List.replicate m o0, emptyH, ?_⟩
  refine ⟨?_, ?_, ?_, emptyH_ext _, rfl, rfl, hne, fun o ho => ?_⟩
  · rw [Heap.put_same, List.length_replicate]; rfl
  · rw [Heap.put_other _ _ (Ne.symm hne), Heap.put_same]
    exact congrArg (fun l => some (Obj.cells (List.toArray l) 137)) (zeros_os m)
  · show List.replicate _ _ = _
    rw [List.map_replicate, Int.toNat_natCast]; rfl
  · obtain rfl := List.eq_of_mem_replicate ho
    exact ⟨RowAt.nil _ _, RowAt.nil _ _, Nat.le_refl _, Nat.le_refl _, .inl rfl, .inl rfl⟩
def fullB (l : List UInt8) : List UInt8 := l ++ List.replicate (256 - l.length) 0
theorem full (l : List UInt8) (A : Option Addr) (c : Nat) (F : Heap) (hr : RowAt F A (bytesOf l)) (hl : l.length ≤ 256) : FnK Tryd.prog 92 #[.slice A l.length c] F (fun v F' => NewRow F F' v (fullB l) ∧ Ext F F') := by
  (refine fn_walk tab_ok Tryd.func92 rfl rfl rfl rfl ?_; (conv => whnf))
  refine make_one tab_ok 256 256 rfl rfl rfl rfl rfl ⟨rfl, by decide, _, rfl, rfl⟩ (Nat.le_refl _) (by decide) fun g hg => ?_
  have hB := Heap.put_same F g (.cells (List.replicate 256 (Value.int .u8 0)).toArray 5)
  have hE := Ext.new hg (.cells (List.replicate 256 (Value.int .u8 0)).toArray 5)
  generalize F.put g _ = F1 at hB hE ⊢
  ((conv => whnf); repeat (first | (apply load_at; (conv => lhs; whnf); (with_reducible assumption); rfl; (conv => whnf)) | (apply load_at; (conv => lhs; rw [add_plain, add_plain]); (with_reducible assumption); rfl; (conv => whnf)) | (apply loads_at; (conv => lhs; whnf); (with_reducible assumption); rfl; (conv => whnf)) | (refine ⟨⟨by omega, by omega⟩, ?_⟩; (conv => whnf))))
  refine copy_to (g := g) (off := 0) (dl := 256) (dc := 256) (m := l.length) (ys := bytesOf l) (y := .slice A l.length c) tab_ok rfl rfl rfl rfl rfl rfl ⟨by simp [bytesOf], .inl ⟨_, _, rfl, hr.mono hE⟩⟩ hB (Nat.le_refl 0) (by simp) (hone_bytes l) ?_
  have hB2 := Heap.put_same F1 g (.cells (putL (List.replicate 256 (Value.int .u8 0)).toArray.toList 0 ((bytesOf l).take (min l.length 256))).toArray 5)
  have hE2 := hE.put hg (.cells (putL (List.replicate 256 (Value.int .u8 0)).toArray.toList 0 ((bytesOf l).take (min l.length 256))).toArray 5)
  generalize F1.put g _ = F2 at hB2 hE2 ⊢
  ((conv => whnf); repeat (first | (apply load_at; (conv => lhs; whnf); (with_reducible assumption); rfl; (conv => whnf)) | (apply load_at; (conv => lhs; rw [add_plain, add_plain]); (with_reducible assumption); rfl; (conv => whnf)) | (apply loads_at; (conv => lhs; whnf); (with_reducible assumption); rfl; (conv => whnf)) | (refine ⟨⟨by omega, by omega⟩, ?_⟩; (conv => whnf))))
  have hlen : (fullB l).length = 256 := by unfold fullB; rw [List.length_append, List.length_replicate]; omega
  refine ⟨⟨some ⟨g, 0, none⟩, 256, by rw [hlen]; rfl, by rw [hlen]; exact Nat.le_refl _, ?_, fun a ha => by obtain rfl := Option.some.inj ha; exact hg⟩, hE2⟩
  have := row_blk hB2
  rw [List.toList_toArray] at this
  have e : putL (List.replicate 256 (Value.int .u8 0)).toArray.toList 0 ((bytesOf l).take (min l.length 256)) = bytesOf (fullB l) := by
    rw [putL_eq _ _ _ (by simp [bytesOf]; omega), List.take_zero, List.nil_append, List.toList_toArray, Nat.min_eq_left hl, List.take_of_length_le (by simp [bytesOf]), Nat.zero_add, List.drop_replicate]
    unfold fullB
    rw [bytes_app, bytes_len, zeros_bytes]
  rw [e] at this
  exact this
end Go.Proofs.YtmpiggcooboenaaDoor.Al
/- The reference's disks: Read, over what is known of memory. -/
namespace Go.Proofs.YtmpiggcooboenaaDoor.Al
open Go Go.Al Go.Proofs Go.RowKit
set_option maxHeartbeats 8000000
set_option maxRecDepth 100000
set_option linter.unusedVariables false
set_option linter.unusedSimpArgs false
def rreadE (r : RS) (i : Int) : Int := if r.down = true then 5 else if ¬ (0 ≤ i ∧ i < (r.L.length : Int)) then 1 else 0
def rsec (r : RS) (i : Int) : List UInt8 := match r.L[i.toNat]? with | some o => fullB o.l | none => []
def rreadL (r : RS) (i : Int) : List UInt8 := if r.down = true ∨ ¬ (0 ≤ i ∧ i < (r.L.length : Int)) then [] else rsec r i
theorem ad3 (q j k : Nat) : Addr.add (Addr.add ⟨q, 0, none⟩ ((Int.toNat (j : Int)) * 3)) k = ⟨q, j * 3 + k, none⟩ := by
  rw [Int.toNat_natCast, add_plain, add_plain, Nat.zero_add]
theorem os_get {os : List OR} {j k : Nat} {o : OR} {v : Value} (h : os[j]? = some o) (hv : (orC o)[k]? = some v) : (rowS orC os).toArray[j * 3 + k]? = some v := by
  rw [List.getElem?_toArray]
  exact rowS_get orC_len h hv
theorem rread {D F : Heap} {b : Nat} {r : RS} (hE : Ext D F) (hD : Rk D b r) (i : Int) :
    FnK Tryd.prog 44 #[.pointer (some ⟨b, 0, none⟩), .int .i64 i] F (fun v F' => ∃ u, v = .tuple #[u, .int .i64 (rreadE r i)] ∧ NewRow F F' u (rreadL r i) ∧ Ext F F') := by
  obtain ⟨hw, q, os, G, hP⟩ := hD
  have hb := hE _ _ hP.cell
  have hq := hE _ _ hP.row
  have hlen : r.L.length = os.length := by rw [hP.L, List.length_map]
  have hre : rreadE r i = if r.down = true then 5 else if ¬ (0 ≤ i ∧ i < (os.length : Int)) then 1 else 0 := by unfold rreadE; rw [hlen]
  have hrl : rreadL r i = if r.down = true ∨ ¬ (0 ≤ i ∧ i < (os.length : Int)) then [] else rsec r i := by unfold rreadL; rw [hlen]
  generalize rreadE r i = re at hre ⊢
  generalize rreadL r i = rl at hrl ⊢
  (refine fn_walk tab_ok Tryd.func44 rfl rfl rfl rfl ?_; (conv => whnf))
  ((conv => whnf); repeat (first | (apply load_at; (conv => lhs; whnf); (with_reducible assumption); rfl; (conv => whnf)) | (apply load_at; (conv => lhs; rw [add_plain, add_plain]); (with_reducible assumption); rfl; (conv => whnf)) | (apply loads_at; (conv => lhs; whnf); (with_reducible assumption); rfl; (conv => whnf)) | (refine ⟨⟨by omega, by omega⟩, ?_⟩; (conv => whnf))))
  refine cond_split (fun h => ?_) (fun h => ?_)
  · have hd : r.down = true := h
    rw [if_pos hd] at hre
    rw [if_pos (.inl hd)] at hrl
    ((conv => whnf); repeat (first | (apply load_at; (conv => lhs; whnf); (with_reducible assumption); rfl; (conv => whnf)) | (apply load_at; (conv => lhs; rw [add_plain, add_plain]); (with_reducible assumption); rfl; (conv => whnf)) | (apply loads_at; (conv => lhs; whnf); (with_reducible assumption); rfl; (conv => whnf)) | (refine ⟨⟨by omega, by omega⟩, ?_⟩; (conv => whnf))))
    exact ⟨.slice none 0 0, by rw [hre]; rfl, by rw [hrl]; exact newRow_nil _, Ext.refl _⟩
  have hd : r.down = false := h
  have hdn : ¬ r.down = true := by rw [hd]; decide
  rw [if_neg hdn] at hre
  ((conv => whnf); repeat (first | (apply load_at; (conv => lhs; whnf); (with_reducible assumption); rfl; (conv => whnf)) | (apply load_at; (conv => lhs; rw [add_plain, add_plain]); (with_reducible assumption); rfl; (conv => whnf)) | (apply loads_at; (conv => lhs; whnf); (with_reducible assumption); rfl; (conv => whnf)) | (refine ⟨⟨by omega, by omega⟩, ?_⟩; (conv => whnf))))
  refine cond_split (fun h => ?_) (fun h => ?_)
  case refine_2 =>
    have h : (!decide (i < 0)) = false := h
    have h0 : i < 0 := by simpa using h
    have hi : ¬ (0 ≤ i ∧ i < (os.length : Int)) := by omega
    rw [if_pos hi] at hre
    rw [if_pos (.inr hi)] at hrl
    ((conv => whnf); repeat (first | (apply load_at; (conv => lhs; whnf); (with_reducible assumption); rfl; (conv => whnf)) | (apply load_at; (conv => lhs; rw [add_plain, add_plain]); (with_reducible assumption); rfl; (conv => whnf)) | (apply loads_at; (conv => lhs; whnf); (with_reducible assumption); rfl; (conv => whnf)) | (refine ⟨⟨by omega, by omega⟩, ?_⟩; (conv => whnf))))
    exact ⟨.slice none 0 0, by rw [hre]; rfl, by rw [hrl]; exact newRow_nil _, Ext.refl _⟩
  have h : (!decide (i < 0)) = true := h
  have h0 : ¬ i < 0 := by simpa using h
  ((conv => whnf); repeat (first | (apply load_at; (conv => lhs; whnf); (with_reducible assumption); rfl; (conv => whnf)) | (apply load_at; (conv => lhs; rw [add_plain, add_plain]); (with_reducible assumption); rfl; (conv => whnf)) | (apply loads_at; (conv => lhs; whnf); (with_reducible assumption); rfl; (conv => whnf)) | (refine ⟨⟨by omega, by omega⟩, ?_⟩; (conv => whnf))))
  refine cond_split (fun h => ?_) (fun h => ?_)
  · have h : decide (i ≥ (os.length : Int)) = true := h
    have hi : ¬ (0 ≤ i ∧ i < (os.length : Int)) := by have := of_decide_eq_true h; omega
    rw [if_pos hi] at hre
    rw [if_pos (.inr hi)] at hrl
    ((conv => whnf); repeat (first | (apply load_at; (conv => lhs; whnf); (with_reducible assumption); rfl; (conv => whnf)) | (apply load_at; (conv => lhs; rw [add_plain, add_plain]); (with_reducible assumption); rfl; (conv => whnf)) | (apply loads_at; (conv => lhs; whnf); (with_reducible assumption); rfl; (conv => whnf)) | (refine ⟨⟨by omega, by omega⟩, ?_⟩; (conv => whnf))))
    exact ⟨.slice none 0 0, by rw [hre]; rfl, by rw [hrl]; exact newRow_nil _, Ext.refl _⟩
  have h : decide (i ≥ (os.length : Int)) = false := h
  have hi : 0 ≤ i ∧ i < (os.length : Int) := by have := of_decide_eq_false h; omega
  rw [if_neg (fun e => e hi)] at hre
  rw [if_neg (by rintro (e | e); exact hdn e; exact e hi)] at hrl
  obtain ⟨j, rfl⟩ : ∃ j : Nat, i = j := ⟨i.toNat, by omega⟩
  have hj : j < os.length := by omega
  obtain ⟨o, ho⟩ : ∃ o, os[j]? = some o := ⟨_, List.getElem?_eq_getElem hj⟩
  have hok := hP.ok o (List.mem_of_getElem? ho)
  have hsec : rsec r (j : Int) = fullB o.l := by
    unfold rsec
    rw [Int.toNat_natCast, hP.L, List.getElem?_map, ho]
    rfl
  ((conv => whnf); repeat (first | (apply load_at; (conv => lhs; whnf); (with_reducible assumption); rfl; (conv => whnf)) | (apply load_at; (conv => lhs; rw [add_plain, add_plain]); (with_reducible assumption); rfl; (conv => whnf)) | (apply loads_at; (conv => lhs; whnf); (with_reducible assumption); rfl; (conv => whnf)) | (refine ⟨⟨by omega, by omega⟩, ?_⟩; (conv => whnf))))
  refine load_at (ad3 q j 1) hq (os_get ho rfl) ?_
  ((conv => whnf); repeat (first | (apply load_at; (conv => lhs; whnf); (with_reducible assumption); rfl; (conv => whnf)) | (apply load_at; (conv => lhs; rw [add_plain, add_plain]); (with_reducible assumption); rfl; (conv => whnf)) | (apply loads_at; (conv => lhs; whnf); (with_reducible assumption); rfl; (conv => whnf)) | (refine ⟨⟨by omega, by omega⟩, ?_⟩; (conv => whnf))))
  refine call_of (full o.l o.lA o.lc F (hok.l.mono (hP.base.trans hE)) (by have := hok.ln; omega)) ?_
  rintro v F2 ⟨hr, hE2⟩
  ((conv => whnf); repeat (first | (apply load_at; (conv => lhs; whnf); (with_reducible assumption); rfl; (conv => whnf)) | (apply load_at; (conv => lhs; rw [add_plain, add_plain]); (with_reducible assumption); rfl; (conv => whnf)) | (apply loads_at; (conv => lhs; whnf); (with_reducible assumption); rfl; (conv => whnf)) | (refine ⟨⟨by omega, by omega⟩, ?_⟩; (conv => whnf))))
  exact ⟨v, by rw [hre]; rfl, by rw [hrl, hsec]; exact hr, hE2⟩
end Go.Proofs.YtmpiggcooboenaaDoor.Al
/- The reference's disks: Write, over what is known of memory. -/
namespace Go.Proofs.YtmpiggcooboenaaDoor.Al
open Go Go.Al Go.Proofs Go.RowKit
set_option maxHeartbeats 8000000
set_option maxRecDepth 100000
set_option linter.unusedVariables false
set_option linter.unusedSimpArgs false
theorem os_put {os : List OR} {j k : Nat} {o o' : OR} {v : Value} (h : os[j]? = some o) (hk : k < 3) (hv : orC o' = (orC o).set k v) : (putL (rowS orC os).toArray.toList (j * 3 + k) [v]).toArray = (rowS orC (os.set j o')).toArray := by
  rw [List.toList_toArray, rowS_set orC_len os j k o o' v h hk hv]
theorem os_in {os : List OR} {j k : Nat} (h : j < os.length) (hk : k < 3) : Nat.ble (j * 3 + k + 1) (rowS orC os).toArray.size = true :=
  Nat.ble_eq_true_of_le (by rw [List.size_toArray, rowS_len orC_len]; omega)
/-- A sector's last bytes are new ones. -/
theorem RkP.setL {D F F' : Heap} {b q : Nat} {os : List OR} {G : Heap} {r : RS} (h : RkP D b q os G r) (hE : Ext D F) (hE2 : Ext F F') {i : Nat} {o o' : OR} (ho : os[i]? = some o) (hv : OrOk (gain G F F') o') :
    Moves D F ((gain D F F').put q (osO (os.set i o'))) (F'.put q (osO (os.set i o'))) ∧ RkP ((gain D F F').put q (osO (os.set i o'))) b q (os.set i o') (gain G F F') { r with L := r.L.set i (od o') } := by
  have hm := Moves.gain hE hE2
  have hg := gain_ext (F' := F') hE
  have hG : Ext G (gain G F F') := gain_ext (h.base.trans hE)
  have hGD : Ext (gain G F F') (gain D F F') := fun c u hc => by
    cases e : F c with
    | none => rw [gain_new e] at hc ⊢; exact hc
    | some w => rw [gain_old e] at hc ⊢; exact h.base _ _ hc
  have P : RkP (gain D F F') b q os (gain G F F') r := ⟨hg _ _ h.cell, hg _ _ h.row, h.L, hGD, by rw [gain_old (hE _ _ h.cell)]; exact h.gb, by rw [gain_old (hE _ _ h.row)]; exact h.gq, h.bq, fun x hx => (h.ok x hx).mono hG⟩
  exact ⟨hm.trans (Moves.put hm.inn (.inl (by rw [P.row]; simp)) _), P.set i o' hv⟩
end Go.Proofs.YtmpiggcooboenaaDoor.Al
/- The reference's disks: Write, over what is known of memory (printed by mkrwrite.py). -/
namespace Go.Proofs.YtmpiggcooboenaaDoor.Al
open Go Go.Al Go.Proofs Go.RowKit
set_option maxHeartbeats 8000000
set_option maxRecDepth 100000
set_option linter.unusedVariables false
set_option linter.unusedSimpArgs false
def rwriteE (r : RS) (i : Int) (l : List UInt8) : Int := if r.down = true then 5 else if ¬ (0 ≤ i ∧ i < (r.L.length : Int)) ∨ l.length ≠ 256 then 1 else if r.armed = true ∧ r.arm = 0 then 5 else 0
def rwriteO (r : RS) (o : OD) (i : Int) (l : List UInt8) : RS :=
  { r with L := r.L.set i.toNat ⟨o.s, l, if o.t = 0 then r.turn + 1 else o.t⟩, turn := if o.t = 0 then r.turn + 1 else r.turn, done := r.done + 1, arm := if r.armed = true then r.arm - 1 else r.arm }
def rwriteS (r : RS) (i : Int) (l : List UInt8) : RS :=
  if r.down = true ∨ ¬ (0 ≤ i ∧ i < (r.L.length : Int)) ∨ l.length ≠ 256 then r else if r.armed = true ∧ r.arm = 0 then { r with down := true } else
  match r.L[i.toNat]? with | some o => rwriteO r o i l | none => r
theorem rwrite_wf {r : RS} (h : RWf r) {o : OD} {i : Int} (l : List UInt8) (ho : o ∈ r.L) (hd : r.done < 1000000000) (ha : ¬ (r.armed = true ∧ r.arm = 0)) : RWf (rwriteO r o i l) := by
  have h1 := h.turn
  have h2 := h.arm
  have h3 := h.ts o ho
  refine ⟨by show 3 ≤ (r.L.set _ _).length ∧ (r.L.set _ _).length ≤ 65536; rw [List.length_set]; exact h.len, (?_ : 0 ≤ (if o.t = 0 then r.turn + 1 else r.turn) ∧ (if o.t = 0 then r.turn + 1 else r.turn) ≤ r.done + 1), (by omega : r.done + 1 ≤ 1000000000), (?_ : 0 ≤ (if r.armed = true then r.arm - 1 else r.arm) ∧ (if r.armed = true then r.arm - 1 else r.arm) ≤ 9223372036854775807), fun x hx => (?_ : 0 ≤ x.t ∧ x.t ≤ (if o.t = 0 then r.turn + 1 else r.turn))⟩
  · split <;> omega
  · split
    · next e => have : r.arm ≠ 0 := fun e2 => ha ⟨e, e2⟩
                omega
    · omega
  · rcases List.mem_or_eq_of_mem_set hx with hx | rfl
    · have := h.ts x hx
      split <;> omega
    · dsimp only
      split <;> omega
theorem rwrite {D F R : Heap} {b : Nat} {r : RS} (hE : Ext D F) (hD : Rk D b r) (hR : Ext R F) (hA : Apart D R) (l : List UInt8) (A : Option Addr) (c : Nat) (hr : RowAt R A (bytesOf l)) (hl : l.length ≤ 900000) (i : Int) (hw : r.done < 1000000000) :
    FnK Tryd.prog 88 #[.pointer (some ⟨b, 0, none⟩), .int .i64 i, .slice A l.length c] F (fun v F' => v = .int .i64 (rwriteE r i l) ∧ ∃ D', Moves D F D' F' ∧ Rk D' b (rwriteS r i l)) := by
  obtain ⟨hwf, q, os, G, hP⟩ := hD
  have hb := hE _ _ hP.cell
  have hlen : r.L.length = os.length := by rw [hP.L, List.length_map]
  have hre : rwriteE r i l = if r.down = true then 5 else if ¬ (0 ≤ i ∧ i < (os.length : Int)) ∨ l.length ≠ 256 then 1 else if r.armed = true ∧ r.arm = 0 then 5 else 0 := by unfold rwriteE; rw [hlen]
  have hrs : rwriteS r i l = if r.down = true ∨ ¬ (0 ≤ i ∧ i < (os.length : Int)) ∨ l.length ≠ 256 then r else if r.armed = true ∧ r.arm = 0 then { r with down := true } else
    match r.L[i.toNat]? with | some o => rwriteO r o i l | none => r := by unfold rwriteS; rw [hlen]
  generalize rwriteE r i l = we at hre ⊢
  generalize rwriteS r i l = ws at hrs ⊢
  have same : (r.down = true ∨ ¬ (0 ≤ i ∧ i < (os.length : Int)) ∨ l.length ≠ 256) → ∃ D', Moves D F D' F ∧ Rk D' b ws := fun h => ⟨D, Moves.refl hE, by rw [hrs, if_pos h]; exact ⟨hwf, q, os, G, hP⟩⟩
  (refine fn_walk tab_ok Tryd.func88 rfl rfl rfl rfl ?_; (conv => whnf))
  ((conv => whnf); repeat (first | (apply load_at; (conv => lhs; whnf); (with_reducible assumption); rfl; (conv => whnf)) | (apply load_at; (conv => lhs; rw [add_plain, add_plain]); (with_reducible assumption); rfl; (conv => whnf)) | (apply loads_at; (conv => lhs; whnf); (with_reducible assumption); rfl; (conv => whnf)) | (refine ⟨⟨by omega, by omega⟩, ?_⟩; (conv => whnf))))
  refine cond_split (fun h => ?_) (fun h => ?_)
  · have hd : r.down = true := h
    rw [if_pos hd] at hre
    ((conv => whnf); repeat (first | (apply load_at; (conv => lhs; whnf); (with_reducible assumption); rfl; (conv => whnf)) | (apply load_at; (conv => lhs; rw [add_plain, add_plain]); (with_reducible assumption); rfl; (conv => whnf)) | (apply loads_at; (conv => lhs; whnf); (with_reducible assumption); rfl; (conv => whnf)) | (refine ⟨⟨by omega, by omega⟩, ?_⟩; (conv => whnf))))
    exact ⟨by rw [hre]; rfl, same (.inl hd)⟩
  have hd : r.down = false := h
  have hdn : ¬ r.down = true := by rw [hd]; decide
  rw [if_neg hdn] at hre
  ((conv => whnf); repeat (first | (apply load_at; (conv => lhs; whnf); (with_reducible assumption); rfl; (conv => whnf)) | (apply load_at; (conv => lhs; rw [add_plain, add_plain]); (with_reducible assumption); rfl; (conv => whnf)) | (apply loads_at; (conv => lhs; whnf); (with_reducible assumption); rfl; (conv => whnf)) | (refine ⟨⟨by omega, by omega⟩, ?_⟩; (conv => whnf))))
  refine cond_split (fun h => ?_) (fun h => ?_)
  case refine_2 =>
    have h : (!decide (i < 0)) = false := h
    have h0 : i < 0 := by simpa using h
    have hi : ¬ (0 ≤ i ∧ i < (os.length : Int)) := by omega
    rw [if_pos (.inl hi)] at hre
    ((conv => whnf); repeat (first | (apply load_at; (conv => lhs; whnf); (with_reducible assumption); rfl; (conv => whnf)) | (apply load_at; (conv => lhs; rw [add_plain, add_plain]); (with_reducible assumption); rfl; (conv => whnf)) | (apply loads_at; (conv => lhs; whnf); (with_reducible assumption); rfl; (conv => whnf)) | (refine ⟨⟨by omega, by omega⟩, ?_⟩; (conv => whnf))))
    exact ⟨by rw [hre]; rfl, same (.inr (.inl hi))⟩
  have h : (!decide (i < 0)) = true := h
  have h0 : ¬ i < 0 := by simpa using h
  ((conv => whnf); repeat (first | (apply load_at; (conv => lhs; whnf); (with_reducible assumption); rfl; (conv => whnf)) | (apply load_at; (conv => lhs; rw [add_plain, add_plain]); (with_reducible assumption); rfl; (conv => whnf)) | (apply loads_at; (conv => lhs; whnf); (with_reducible assumption); rfl; (conv => whnf)) | (refine ⟨⟨by omega, by omega⟩, ?_⟩; (conv => whnf))))
  refine cond_split (fun h => ?_) (fun h => ?_)
  case refine_2 =>
    have h : (!decide (i ≥ (os.length : Int))) = false := h
    have hi : ¬ (0 ≤ i ∧ i < (os.length : Int)) := by have : i ≥ (os.length : Int) := by simpa using h
                                                      omega
    rw [if_pos (.inl hi)] at hre
    ((conv => whnf); repeat (first | (apply load_at; (conv => lhs; whnf); (with_reducible assumption); rfl; (conv => whnf)) | (apply load_at; (conv => lhs; rw [add_plain, add_plain]); (with_reducible assumption); rfl; (conv => whnf)) | (apply loads_at; (conv => lhs; whnf); (with_reducible assumption); rfl; (conv => whnf)) | (refine ⟨⟨by omega, by omega⟩, ?_⟩; (conv => whnf))))
    exact ⟨by rw [hre]; rfl, same (.inr (.inl hi))⟩
  have h : (!decide (i ≥ (os.length : Int))) = true := h
  have hi : 0 ≤ i ∧ i < (os.length : Int) := by have : ¬ i ≥ (os.length : Int) := by simpa using h
                                                omega
  ((conv => whnf); repeat (first | (apply load_at; (conv => lhs; whnf); (with_reducible assumption); rfl; (conv => whnf)) | (apply load_at; (conv => lhs; rw [add_plain, add_plain]); (with_reducible assumption); rfl; (conv => whnf)) | (apply loads_at; (conv => lhs; whnf); (with_reducible assumption); rfl; (conv => whnf)) | (refine ⟨⟨by omega, by omega⟩, ?_⟩; (conv => whnf))))
  refine cond_split (fun h => ?_) (fun h => ?_)
  · have h : ((l.length : Int) != 256) = true := h
    have hne : l.length ≠ 256 := fun e => by rw [e] at h; exact absurd h (by decide)
    rw [if_pos (.inr hne)] at hre
    ((conv => whnf); repeat (first | (apply load_at; (conv => lhs; whnf); (with_reducible assumption); rfl; (conv => whnf)) | (apply load_at; (conv => lhs; rw [add_plain, add_plain]); (with_reducible assumption); rfl; (conv => whnf)) | (apply loads_at; (conv => lhs; whnf); (with_reducible assumption); rfl; (conv => whnf)) | (refine ⟨⟨by omega, by omega⟩, ?_⟩; (conv => whnf))))
    exact ⟨by rw [hre]; rfl, same (.inr (.inr hne))⟩
  have h : ((l.length : Int) != 256) = false := h
  have hl256 : l.length = 256 := by have := bne_eq_false_iff_eq.1 h; omega
  rw [if_neg (by rintro (h1 | h1); exact h1 hi; exact h1 hl256)] at hre
  rw [if_neg (by rintro (h1 | h1 | h1); exact hdn h1; exact h1 hi; exact h1 hl256)] at hrs
  clear same
  have hq := hE _ _ hP.row
  obtain ⟨j, rfl⟩ : ∃ j : Nat, i = j := ⟨i.toNat, by omega⟩
  have hj : j < os.length := by omega
  obtain ⟨o, ho⟩ : ∃ o, os[j]? = some o := ⟨_, List.getElem?_eq_getElem hj⟩
  have hok := hP.ok o (List.mem_of_getElem? ho)
  have hLo : r.L[(j : Int).toNat]? = some (od o) := by rw [Int.toNat_natCast, hP.L, List.getElem?_map, ho]; rfl
  rw [hLo] at hrs
  have hmem : od o ∈ r.L := List.mem_of_getElem? hLo
  ((conv => whnf); repeat (first | (apply load_at; (conv => lhs; whnf); (with_reducible assumption); rfl; (conv => whnf)) | (apply load_at; (conv => lhs; rw [add_plain, add_plain]); (with_reducible assumption); rfl; (conv => whnf)) | (apply loads_at; (conv => lhs; whnf); (with_reducible assumption); rfl; (conv => whnf)) | (refine ⟨⟨by omega, by omega⟩, ?_⟩; (conv => whnf))))
  refine cond_split (fun har => ?_) (fun har => ?_)
  · have har : r.armed = true := har
    ((conv => whnf); repeat (first | (apply load_at; (conv => lhs; whnf); (with_reducible assumption); rfl; (conv => whnf)) | (apply load_at; (conv => lhs; rw [add_plain, add_plain]); (with_reducible assumption); rfl; (conv => whnf)) | (apply loads_at; (conv => lhs; whnf); (with_reducible assumption); rfl; (conv => whnf)) | (refine ⟨⟨by omega, by omega⟩, ?_⟩; (conv => whnf))))
    refine cond_split (fun h => ?_) (fun h => ?_)
    · have h : (r.arm == 0) = true := h
      have hz : r.arm = 0 := by simpa using h
      rw [if_pos ⟨har, hz⟩] at hre hrs
      ((conv => whnf); repeat (first | (apply load_at; (conv => lhs; whnf); (with_reducible assumption); rfl; (conv => whnf)) | (apply load_at; (conv => lhs; rw [add_plain, add_plain]); (with_reducible assumption); rfl; (conv => whnf)) | (apply loads_at; (conv => lhs; whnf); (with_reducible assumption); rfl; (conv => whnf)) | (refine ⟨⟨by omega, by omega⟩, ?_⟩; (conv => whnf))))
      refine store_step b 5 _ (rdC (.slice (some ⟨q, 0, none⟩) os.length os.length) r.turn r.done r.arm r.armed true) rfl hb rfl rfl (.inl (Nat.le_refl 0)) (one_bool _) ?_
      ((conv => whnf); repeat (first | (apply load_at; (conv => lhs; whnf); (with_reducible assumption); rfl; (conv => whnf)) | (apply load_at; (conv => lhs; rw [add_plain, add_plain]); (with_reducible assumption); rfl; (conv => whnf)) | (apply loads_at; (conv => lhs; whnf); (with_reducible assumption); rfl; (conv => whnf)) | (refine ⟨⟨by omega, by omega⟩, ?_⟩; (conv => whnf))))
      refine ⟨by rw [hre]; rfl, _, Moves.put hE (.inl (by rw [hP.cell]; simp)) _, ?_⟩
      rw [hrs]
      exact ⟨⟨hwf.len, hwf.turn, hwf.done, hwf.arm, hwf.ts⟩, q, os, G, hP.nums r.turn r.done r.arm r.armed true⟩
    · have h : (r.arm == 0) = false := h
      have hz : ¬ (r.armed = true ∧ r.arm = 0) := fun e => by rw [e.2] at h; exact absurd h (by decide)
      have hwf2 := rwrite_wf hwf (i := (j : Int)) l hmem hw hz
      rw [if_neg hz] at hre hrs
      ((conv => whnf); repeat (first | (apply load_at; (conv => lhs; whnf); (with_reducible assumption); rfl; (conv => whnf)) | (apply load_at; (conv => lhs; rw [add_plain, add_plain]); (with_reducible assumption); rfl; (conv => whnf)) | (apply loads_at; (conv => lhs; whnf); (with_reducible assumption); rfl; (conv => whnf)) | (refine ⟨⟨by omega, by omega⟩, ?_⟩; (conv => whnf))))
      refine cond_split (fun h2 => ?_) (fun h2 => ?_)
      case refine_2 => exact absurd (har.symm.trans h2) (by decide)
      refine short [0, 1, 2] [.pointer (some ⟨b, 0, none⟩), .int .i64 (j : Int), .slice A l.length c] rfl fun ρ => ?_
      ((conv => whnf); repeat (first | (apply load_at; (conv => lhs; whnf); (with_reducible assumption); rfl; (conv => whnf)) | (apply load_at; (conv => lhs; rw [add_plain, add_plain]); (with_reducible assumption); rfl; (conv => whnf)) | (apply loads_at; (conv => lhs; whnf); (with_reducible assumption); rfl; (conv => whnf)) | (refine ⟨⟨by omega, by omega⟩, ?_⟩; (conv => whnf))))
      obtain ⟨am, ham⟩ : ∃ am, am = if r.armed = true then r.arm - 1 else r.arm := ⟨_, rfl⟩
      have haw : IntKind.i64.wrap (r.arm - 1) = am := by rw [ham, if_pos har]; have := hwf.arm; exact wrap_eq (by omega) (by omega)
      refine store_step b 3 _ (rdC (.slice (some ⟨q, 0, none⟩) os.length os.length) r.turn r.done am r.armed r.down) rfl hb ((rfl : _ = rdC (.slice (some ⟨q, 0, none⟩) os.length os.length) r.turn r.done (IntKind.i64.wrap (r.arm - 1)) r.armed r.down).trans (congrArg (fun z => rdC (.slice (some ⟨q, 0, none⟩) os.length os.length) r.turn r.done z r.armed r.down) haw)) rfl (.inl (Nat.le_refl 0)) (one_int _ _) ?_
      have M1 := Moves.put hE (.inl (by rw [hP.cell]; simp)) (rdO (.slice (some ⟨q, 0, none⟩) os.length os.length) r.turn r.done am r.armed r.down)
      have P1 := hP.nums r.turn r.done am r.armed r.down
      have hb1 := Heap.put_same F b (rdO (.slice (some ⟨q, 0, none⟩) os.length os.length) r.turn r.done am r.armed r.down)
      generalize F.put b _ = F1 at M1 hb1 ⊢
      generalize D.put b _ = D1 at M1 P1
      ((conv => whnf); repeat (first | (apply load_at; (conv => lhs; whnf); (with_reducible assumption); rfl; (conv => whnf)) | (apply load_at; (conv => lhs; rw [add_plain, add_plain]); (with_reducible assumption); rfl; (conv => whnf)) | (apply loads_at; (conv => lhs; whnf); (with_reducible assumption); rfl; (conv => whnf)) | (refine ⟨⟨by omega, by omega⟩, ?_⟩; (conv => whnf))))
      have hdw : IntKind.i64.wrap (r.done + 1) = r.done + 1 := wrap_eq (by have := hwf.turn; omega) (by omega)
      refine store_step b 2 _ (rdC (.slice (some ⟨q, 0, none⟩) os.length os.length) r.turn (r.done + 1) am r.armed r.down) rfl hb1 ((rfl : _ = rdC (.slice (some ⟨q, 0, none⟩) os.length os.length) r.turn (IntKind.i64.wrap (r.done + 1)) am r.armed r.down).trans (congrArg (fun z => rdC (.slice (some ⟨q, 0, none⟩) os.length os.length) r.turn z am r.armed r.down) hdw)) rfl (.inl (Nat.le_refl 0)) (one_int _ _) ?_
      have M2 := M1.trans (Moves.put M1.inn (.inl (by rw [P1.cell]; simp)) (rdO (.slice (some ⟨q, 0, none⟩) os.length os.length) r.turn (r.done + 1) am r.armed r.down))
      have P2 := P1.nums r.turn (r.done + 1) am r.armed r.down
      have hb2 := Heap.put_same F1 b (rdO (.slice (some ⟨q, 0, none⟩) os.length os.length) r.turn (r.done + 1) am r.armed r.down)
      have hq2 := M2.inn _ _ P2.row
      generalize F1.put b _ = F2 at M2 hb2 hq2 ⊢
      generalize D1.put b _ = D2 at M2 P2
      ((conv => whnf); repeat (first | (apply load_at; (conv => lhs; whnf); (with_reducible assumption); rfl; (conv => whnf)) | (apply load_at; (conv => lhs; rw [add_plain, add_plain]); (with_reducible assumption); rfl; (conv => whnf)) | (apply loads_at; (conv => lhs; whnf); (with_reducible assumption); rfl; (conv => whnf)) | (refine ⟨⟨by omega, by omega⟩, ?_⟩; (conv => whnf))))
      refine load_at (ad3 q j 2) hq2 (os_get ho rfl) ?_
      ((conv => whnf); repeat (first | (apply load_at; (conv => lhs; whnf); (with_reducible assumption); rfl; (conv => whnf)) | (apply load_at; (conv => lhs; rw [add_plain, add_plain]); (with_reducible assumption); rfl; (conv => whnf)) | (apply loads_at; (conv => lhs; whnf); (with_reducible assumption); rfl; (conv => whnf)) | (refine ⟨⟨by omega, by omega⟩, ?_⟩; (conv => whnf))))
      refine cond_split (fun h => ?_) (fun h => ?_)
      · have h : (o.t == 0) = true := h
        have ht : o.t = 0 := by simpa using h
        refine short [0, 1, 2] [.pointer (some ⟨b, 0, none⟩), .int .i64 (j : Int), .slice A l.length c] rfl fun ρ => ?_
        have htw : IntKind.i64.wrap (r.turn + 1) = r.turn + 1 := wrap_eq (by have := hwf.turn; omega) (by have := hwf.turn; omega)
        ((conv => whnf); repeat (first | (apply load_at; (conv => lhs; whnf); (with_reducible assumption); rfl; (conv => whnf)) | (apply load_at; (conv => lhs; rw [add_plain, add_plain]); (with_reducible assumption); rfl; (conv => whnf)) | (apply loads_at; (conv => lhs; whnf); (with_reducible assumption); rfl; (conv => whnf)) | (refine ⟨⟨by omega, by omega⟩, ?_⟩; (conv => whnf))))
        refine store_step b 1 _ (rdC (.slice (some ⟨q, 0, none⟩) os.length os.length) (r.turn + 1) (r.done + 1) am r.armed r.down) rfl hb2 ((rfl : _ = rdC (.slice (some ⟨q, 0, none⟩) os.length os.length) (IntKind.i64.wrap (r.turn + 1)) (r.done + 1) am r.armed r.down).trans (congrArg (fun z => rdC (.slice (some ⟨q, 0, none⟩) os.length os.length) z (r.done + 1) am r.armed r.down) htw)) rfl (.inl (Nat.le_refl 0)) (one_int _ _) ?_
        have M3 := M2.trans (Moves.put M2.inn (.inl (by rw [P2.cell]; simp)) (rdO (.slice (some ⟨q, 0, none⟩) os.length os.length) (r.turn + 1) (r.done + 1) am r.armed r.down))
        have P3 := P2.nums (r.turn + 1) (r.done + 1) am r.armed r.down
        have hb3 := Heap.put_same F2 b (rdO (.slice (some ⟨q, 0, none⟩) os.length os.length) (r.turn + 1) (r.done + 1) am r.armed r.down)
        have hq3 := M3.inn _ _ P3.row
        generalize F2.put b _ = F3 at M3 hb3 hq3 ⊢
        generalize D2.put b _ = D3 at M3 P3
        refine short [0, 1, 2] [.pointer (some ⟨b, 0, none⟩), .int .i64 (j : Int), .slice A l.length c] rfl fun ρ => ?_
        (conv => whnf)
        refine draw_walk tab_ok (by kernel_rfl) [0, 1, 2, 3, 4, 5, 6, 7, 8, 9, 10, 11] (by kernel_rfl) ?_
        ((conv => whnf); repeat (first | (apply load_at; (conv => lhs; whnf); (with_reducible assumption); rfl; (conv => whnf)) | (apply load_at; (conv => lhs; rw [add_plain, add_plain]); (with_reducible assumption); rfl; (conv => whnf)) | (apply loads_at; (conv => lhs; whnf); (with_reducible assumption); rfl; (conv => whnf)) | (refine ⟨⟨by omega, by omega⟩, ?_⟩; (conv => whnf))))
        refine store_step q (j * 3 + 2) _ (rowS orC (os.set j { o with t := r.turn + 1 })).toArray (ad3 q j 2) hq3 (os_put ho (by decide) rfl) (os_in hj (by decide)) (.inl (Nat.le_refl 0)) (one_int _ _) ?_
        have M4 := M3.trans (Moves.put M3.inn (.inl (by rw [P3.row]; simp)) (osO (os.set j { o with t := r.turn + 1 })))
        have P4 := P3.set j { o with t := r.turn + 1 } ⟨hok.s, hok.l, hok.sc, hok.lc, hok.sn, hok.ln⟩
        generalize F3.put q _ = F4 at M4 ⊢
        generalize D3.put q _ = D4 at M4 P4
        have hn4 : (os.set j { o with t := r.turn + 1 }).length = os.length := List.length_set
        have ho4 : (os.set j { o with t := r.turn + 1 })[j]? = some { o with t := r.turn + 1 } := by rw [List.getElem?_set_self hj]
        have ok4 : OrOk G { o with t := r.turn + 1 } := ⟨hok.s, hok.l, hok.sc, hok.lc, hok.sn, hok.ln⟩
        have hj4 : j < (os.set j { o with t := r.turn + 1 }).length := by rw [hn4]; exact hj
        have hLe : ∀ l (A5 : Option Addr) (c5 : Nat), ({ L := (r.L.set j (od { o with t := r.turn + 1 })).set j (od { o with t := r.turn + 1, l := l, lA := A5, lc := c5 }), turn := r.turn + 1, done := r.done + 1, arm := am, armed := r.armed, down := r.down } : RS) = rwriteO r (od o) (j : Int) l := fun l A5 c5 => by
          unfold rwriteO
          rw [List.set_set, if_pos (show (od o).t = 0 from ht), if_pos (show (od o).t = 0 from ht), Int.toNat_natCast, ham]
          rfl
        replace P4 : RkP _ b q (os.set j { o with t := r.turn + 1 }) G ⟨r.L.set j (od { o with t := r.turn + 1 }), r.turn + 1, r.done + 1, am, r.armed, r.down⟩ := P4
        have M5 := M4
        have hb5 : F4 b = some (rdO (.slice (some ⟨q, 0, none⟩) os.length os.length) (r.turn + 1) (r.done + 1) am r.armed r.down) := by have := M4.inn _ _ P4.cell; rw [hn4] at this; exact this
        have hq5 := M4.inn _ _ P4.row
        ((conv => whnf); repeat (first | (apply load_at; (conv => lhs; whnf); (with_reducible assumption); rfl; (conv => whnf)) | (apply load_at; (conv => lhs; rw [add_plain, add_plain]); (with_reducible assumption); rfl; (conv => whnf)) | (apply loads_at; (conv => lhs; whnf); (with_reducible assumption); rfl; (conv => whnf)) | (refine ⟨⟨by omega, by omega⟩, ?_⟩; (conv => whnf))))
        refine draw_walk tab_ok (by kernel_rfl) [0, 1, 2, 3, 4, 5, 6, 7, 8, 9] (by kernel_rfl) ?_
        ((conv => whnf); repeat (first | (apply load_at; (conv => lhs; whnf); (with_reducible assumption); rfl; (conv => whnf)) | (apply load_at; (conv => lhs; rw [add_plain, add_plain]); (with_reducible assumption); rfl; (conv => whnf)) | (apply loads_at; (conv => lhs; whnf); (with_reducible assumption); rfl; (conv => whnf)) | (refine ⟨⟨by omega, by omega⟩, ?_⟩; (conv => whnf))))
        refine append_mine tab_ok rfl rfl rfl rfl rfl ⟨_, rfl, fun k h => by cases h⟩ ⟨_, rfl, rfl⟩ (by decide) (Mine.nil F4 F4 _ _ (Ext.refl _)) (m := l.length) (ys := bytesOf l) (y := .slice A l.length c) ⟨by simp [bytesOf], .inl ⟨_, _, rfl, hr.mono (M4.keep hR hA)⟩⟩ (hone_bytes l) (by show 2 * (0 + l.length) * 1 ≤ _; omega) fun s' F5 h1 _ => ?_
        obtain ⟨A5, c5, rfl, hc5, hr5⟩ := h1.own.row
        have hnew : ∀ a, A5 = some a → F4 a.block = none := fun a ha => h1.fresh _ (by rw [ha]; rfl)
        replace hr5 : RowAt F5 A5 (bytesOf l) := hr5
        have E5 := h1.ext
        have hll : 0 + l.length = l.length := Nat.zero_add _
        (conv => whnf)
        refine ⟨E5, ?_⟩
        ((conv => whnf); repeat (first | (apply load_at; (conv => lhs; whnf); (with_reducible assumption); rfl; (conv => whnf)) | (apply load_at; (conv => lhs; rw [add_plain, add_plain]); (with_reducible assumption); rfl; (conv => whnf)) | (apply loads_at; (conv => lhs; whnf); (with_reducible assumption); rfl; (conv => whnf)) | (refine ⟨⟨by omega, by omega⟩, ?_⟩; (conv => whnf))))
        refine store_step q (j * 3 + 1) _ (rowS orC ((os.set j { o with t := r.turn + 1 }).set j { o with t := r.turn + 1, l := l, lA := A5, lc := c5 })).toArray (ad3 q j 1) (E5 _ _ hq5) (os_put ho4 (by decide) (by show _ = [Value.slice ({ o with t := r.turn + 1 } : OR).sA ({ o with t := r.turn + 1 } : OR).s.length ({ o with t := r.turn + 1 } : OR).sc, .slice A5 (0 + l.length) c5, .int .i64 ({ o with t := r.turn + 1 } : OR).t]; rw [hll]; rfl)) (os_in hj4 (by decide)) (.inl (Nat.le_refl 0)) (one_slice _ _ _) ?_
        obtain ⟨M6, P6⟩ := P4.setL M4.inn E5 ho4 (o' := { o with t := r.turn + 1, l := l, lA := A5, lc := c5 }) ⟨ok4.s.mono (gain_ext (P4.base.trans M4.inn)), rowAt_gain hr5 hnew, ok4.sc, (by omega : l.length ≤ c5), ok4.sn, .inr hl256⟩
        replace M6 := M4.trans M6
        ((conv => whnf); repeat (first | (apply load_at; (conv => lhs; whnf); (with_reducible assumption); rfl; (conv => whnf)) | (apply load_at; (conv => lhs; rw [add_plain, add_plain]); (with_reducible assumption); rfl; (conv => whnf)) | (apply loads_at; (conv => lhs; whnf); (with_reducible assumption); rfl; (conv => whnf)) | (refine ⟨⟨by omega, by omega⟩, ?_⟩; (conv => whnf))))
        refine ⟨by rw [hre]; rfl, _, M6, ?_⟩
        rw [hrs]
        refine ⟨hwf2, q, (os.set j { o with t := r.turn + 1 }).set j { o with t := r.turn + 1, l := l, lA := A5, lc := c5 }, gain G F4 F5, ?_⟩
        have e4 : ({ L := (r.L.set j (od { o with t := r.turn + 1 })).set j (od { o with t := r.turn + 1, l := l, lA := A5, lc := c5 }), turn := (r.turn + 1), done := r.done + 1, arm := am, armed := r.armed, down := r.down } : RS) = rwriteO r (od o) (j : Int) l := by
          exact hLe _ _ _
        show RkP _ _ _ _ _ (rwriteO r (od o) (j : Int) l)
        rw [← e4]
        exact P6
      · have h : (o.t == 0) = false := h
        have ht : ¬ o.t = 0 := by simpa using h
        have M4 := M2
        have P4 := P2
        have hn4 : os.length = os.length := rfl
        have ho4 := ho
        have ok4 := hok
        have hj4 := hj
        have M5 := M4
        have hb5 : F2 b = some (rdO (.slice (some ⟨q, 0, none⟩) os.length os.length) r.turn (r.done + 1) am r.armed r.down) := by have := M4.inn _ _ P4.cell; rw [hn4] at this; exact this
        have hq5 := M4.inn _ _ P4.row
        ((conv => whnf); repeat (first | (apply load_at; (conv => lhs; whnf); (with_reducible assumption); rfl; (conv => whnf)) | (apply load_at; (conv => lhs; rw [add_plain, add_plain]); (with_reducible assumption); rfl; (conv => whnf)) | (apply loads_at; (conv => lhs; whnf); (with_reducible assumption); rfl; (conv => whnf)) | (refine ⟨⟨by omega, by omega⟩, ?_⟩; (conv => whnf))))
        refine draw_walk tab_ok (by kernel_rfl) [0, 1, 2, 3, 4, 5, 6, 7, 8, 9] (by kernel_rfl) ?_
        ((conv => whnf); repeat (first | (apply load_at; (conv => lhs; whnf); (with_reducible assumption); rfl; (conv => whnf)) | (apply load_at; (conv => lhs; rw [add_plain, add_plain]); (with_reducible assumption); rfl; (conv => whnf)) | (apply loads_at; (conv => lhs; whnf); (with_reducible assumption); rfl; (conv => whnf)) | (refine ⟨⟨by omega, by omega⟩, ?_⟩; (conv => whnf))))
        refine append_mine tab_ok rfl rfl rfl rfl rfl ⟨_, rfl, fun k h => by cases h⟩ ⟨_, rfl, rfl⟩ (by decide) (Mine.nil F2 F2 _ _ (Ext.refl _)) (m := l.length) (ys := bytesOf l) (y := .slice A l.length c) ⟨by simp [bytesOf], .inl ⟨_, _, rfl, hr.mono (M4.keep hR hA)⟩⟩ (hone_bytes l) (by show 2 * (0 + l.length) * 1 ≤ _; omega) fun s' F5 h1 _ => ?_
        obtain ⟨A5, c5, rfl, hc5, hr5⟩ := h1.own.row
        have hnew : ∀ a, A5 = some a → F2 a.block = none := fun a ha => h1.fresh _ (by rw [ha]; rfl)
        replace hr5 : RowAt F5 A5 (bytesOf l) := hr5
        have E5 := h1.ext
        have hll : 0 + l.length = l.length := Nat.zero_add _
        (conv => whnf)
        refine ⟨E5, ?_⟩
        ((conv => whnf); repeat (first | (apply load_at; (conv => lhs; whnf); (with_reducible assumption); rfl; (conv => whnf)) | (apply load_at; (conv => lhs; rw [add_plain, add_plain]); (with_reducible assumption); rfl; (conv => whnf)) | (apply loads_at; (conv => lhs; whnf); (with_reducible assumption); rfl; (conv => whnf)) | (refine ⟨⟨by omega, by omega⟩, ?_⟩; (conv => whnf))))
        refine store_step q (j * 3 + 1) _ (rowS orC (os.set j { o with l := l, lA := A5, lc := c5 })).toArray (ad3 q j 1) (E5 _ _ hq5) (os_put ho4 (by decide) (by show _ = [Value.slice o.sA o.s.length o.sc, .slice A5 (0 + l.length) c5, .int .i64 o.t]; rw [hll]; rfl)) (os_in hj4 (by decide)) (.inl (Nat.le_refl 0)) (one_slice _ _ _) ?_
        obtain ⟨M6, P6⟩ := P4.setL M4.inn E5 ho4 (o' := { o with l := l, lA := A5, lc := c5 }) ⟨ok4.s.mono (gain_ext (P4.base.trans M4.inn)), rowAt_gain hr5 hnew, ok4.sc, (by omega : l.length ≤ c5), ok4.sn, .inr hl256⟩
        replace M6 := M4.trans M6
        ((conv => whnf); repeat (first | (apply load_at; (conv => lhs; whnf); (with_reducible assumption); rfl; (conv => whnf)) | (apply load_at; (conv => lhs; rw [add_plain, add_plain]); (with_reducible assumption); rfl; (conv => whnf)) | (apply loads_at; (conv => lhs; whnf); (with_reducible assumption); rfl; (conv => whnf)) | (refine ⟨⟨by omega, by omega⟩, ?_⟩; (conv => whnf))))
        refine ⟨by rw [hre]; rfl, _, M6, ?_⟩
        rw [hrs]
        refine ⟨hwf2, q, os.set j { o with l := l, lA := A5, lc := c5 }, gain G F2 F5, ?_⟩
        have e4 : ({ L := r.L.set j (od { o with l := l, lA := A5, lc := c5 }), turn := r.turn, done := r.done + 1, arm := am, armed := r.armed, down := r.down } : RS) = rwriteO r (od o) (j : Int) l := by
          unfold rwriteO
          rw [if_neg (show ¬ (od o).t = 0 from ht), if_neg (show ¬ (od o).t = 0 from ht), Int.toNat_natCast, ham]
          rfl
        show RkP _ _ _ _ _ (rwriteO r (od o) (j : Int) l)
        rw [← e4]
        exact P6
  · have har : r.armed = false := har
    have hz : ¬ (r.armed = true ∧ r.arm = 0) := fun e => by rw [har] at e; exact absurd e.1 (by decide)
    have hwf2 := rwrite_wf hwf (i := (j : Int)) l hmem hw hz
    rw [if_neg hz] at hre hrs
    ((conv => whnf); repeat (first | (apply load_at; (conv => lhs; whnf); (with_reducible assumption); rfl; (conv => whnf)) | (apply load_at; (conv => lhs; rw [add_plain, add_plain]); (with_reducible assumption); rfl; (conv => whnf)) | (apply loads_at; (conv => lhs; whnf); (with_reducible assumption); rfl; (conv => whnf)) | (refine ⟨⟨by omega, by omega⟩, ?_⟩; (conv => whnf))))
    refine cond_split (fun h2 => ?_) (fun h2 => ?_)
    case refine_1 => exact absurd (har.symm.trans h2) (by decide)
    refine short [0, 1, 2] [.pointer (some ⟨b, 0, none⟩), .int .i64 (j : Int), .slice A l.length c] rfl fun ρ => ?_
    obtain ⟨am, ham⟩ : ∃ am, am = if r.armed = true then r.arm - 1 else r.arm := ⟨_, rfl⟩
    have haw : r.arm = am := by rw [ham, if_neg (by rw [har]; decide)]
    have M1 := Moves.refl hE
    have P1 : RkP D b q os G { r with arm := am } := by rw [← haw]; exact hP
    have hb1 : F b = some (rdO (.slice (some ⟨q, 0, none⟩) os.length os.length) r.turn r.done am r.armed r.down) := by rw [← haw]; exact hb
    ((conv => whnf); repeat (first | (apply load_at; (conv => lhs; whnf); (with_reducible assumption); rfl; (conv => whnf)) | (apply load_at; (conv => lhs; rw [add_plain, add_plain]); (with_reducible assumption); rfl; (conv => whnf)) | (apply loads_at; (conv => lhs; whnf); (with_reducible assumption); rfl; (conv => whnf)) | (refine ⟨⟨by omega, by omega⟩, ?_⟩; (conv => whnf))))
    have hdw : IntKind.i64.wrap (r.done + 1) = r.done + 1 := wrap_eq (by have := hwf.turn; omega) (by omega)
    refine store_step b 2 _ (rdC (.slice (some ⟨q, 0, none⟩) os.length os.length) r.turn (r.done + 1) am r.armed r.down) rfl hb1 ((rfl : _ = rdC (.slice (some ⟨q, 0, none⟩) os.length os.length) r.turn (IntKind.i64.wrap (r.done + 1)) am r.armed r.down).trans (congrArg (fun z => rdC (.slice (some ⟨q, 0, none⟩) os.length os.length) r.turn z am r.armed r.down) hdw)) rfl (.inl (Nat.le_refl 0)) (one_int _ _) ?_
    have M2 := M1.trans (Moves.put M1.inn (.inl (by rw [P1.cell]; simp)) (rdO (.slice (some ⟨q, 0, none⟩) os.length os.length) r.turn (r.done + 1) am r.armed r.down))
    have P2 := P1.nums r.turn (r.done + 1) am r.armed r.down
    have hb2 := Heap.put_same F b (rdO (.slice (some ⟨q, 0, none⟩) os.length os.length) r.turn (r.done + 1) am r.armed r.down)
    have hq2 := M2.inn _ _ P2.row
    generalize F.put b _ = F2 at M2 hb2 hq2 ⊢
    generalize D.put b _ = D2 at M2 P2
    ((conv => whnf); repeat (first | (apply load_at; (conv => lhs; whnf); (with_reducible assumption); rfl; (conv => whnf)) | (apply load_at; (conv => lhs; rw [add_plain, add_plain]); (with_reducible assumption); rfl; (conv => whnf)) | (apply loads_at; (conv => lhs; whnf); (with_reducible assumption); rfl; (conv => whnf)) | (refine ⟨⟨by omega, by omega⟩, ?_⟩; (conv => whnf))))
    refine load_at (ad3 q j 2) hq2 (os_get ho rfl) ?_
    ((conv => whnf); repeat (first | (apply load_at; (conv => lhs; whnf); (with_reducible assumption); rfl; (conv => whnf)) | (apply load_at; (conv => lhs; rw [add_plain, add_plain]); (with_reducible assumption); rfl; (conv => whnf)) | (apply loads_at; (conv => lhs; whnf); (with_reducible assumption); rfl; (conv => whnf)) | (refine ⟨⟨by omega, by omega⟩, ?_⟩; (conv => whnf))))
    refine cond_split (fun h => ?_) (fun h => ?_)
    · have h : (o.t == 0) = true := h
      have ht : o.t = 0 := by simpa using h
      refine short [0, 1, 2] [.pointer (some ⟨b, 0, none⟩), .int .i64 (j : Int), .slice A l.length c] rfl fun ρ => ?_
      have htw : IntKind.i64.wrap (r.turn + 1) = r.turn + 1 := wrap_eq (by have := hwf.turn; omega) (by have := hwf.turn; omega)
      ((conv => whnf); repeat (first | (apply load_at; (conv => lhs; whnf); (with_reducible assumption); rfl; (conv => whnf)) | (apply load_at; (conv => lhs; rw [add_plain, add_plain]); (with_reducible assumption); rfl; (conv => whnf)) | (apply loads_at; (conv => lhs; whnf); (with_reducible assumption); rfl; (conv => whnf)) | (refine ⟨⟨by omega, by omega⟩, ?_⟩; (conv => whnf))))
      refine store_step b 1 _ (rdC (.slice (some ⟨q, 0, none⟩) os.length os.length) (r.turn + 1) (r.done + 1) am r.armed r.down) rfl hb2 ((rfl : _ = rdC (.slice (some ⟨q, 0, none⟩) os.length os.length) (IntKind.i64.wrap (r.turn + 1)) (r.done + 1) am r.armed r.down).trans (congrArg (fun z => rdC (.slice (some ⟨q, 0, none⟩) os.length os.length) z (r.done + 1) am r.armed r.down) htw)) rfl (.inl (Nat.le_refl 0)) (one_int _ _) ?_
      have M3 := M2.trans (Moves.put M2.inn (.inl (by rw [P2.cell]; simp)) (rdO (.slice (some ⟨q, 0, none⟩) os.length os.length) (r.turn + 1) (r.done + 1) am r.armed r.down))
      have P3 := P2.nums (r.turn + 1) (r.done + 1) am r.armed r.down
      have hb3 := Heap.put_same F2 b (rdO (.slice (some ⟨q, 0, none⟩) os.length os.length) (r.turn + 1) (r.done + 1) am r.armed r.down)
      have hq3 := M3.inn _ _ P3.row
      generalize F2.put b _ = F3 at M3 hb3 hq3 ⊢
      generalize D2.put b _ = D3 at M3 P3
      refine short [0, 1, 2] [.pointer (some ⟨b, 0, none⟩), .int .i64 (j : Int), .slice A l.length c] rfl fun ρ => ?_
      (conv => whnf)
      refine draw_walk tab_ok (by kernel_rfl) [0, 1, 2, 3, 4, 5, 6, 7, 8, 9, 10, 11] (by kernel_rfl) ?_
      ((conv => whnf); repeat (first | (apply load_at; (conv => lhs; whnf); (with_reducible assumption); rfl; (conv => whnf)) | (apply load_at; (conv => lhs; rw [add_plain, add_plain]); (with_reducible assumption); rfl; (conv => whnf)) | (apply loads_at; (conv => lhs; whnf); (with_reducible assumption); rfl; (conv => whnf)) | (refine ⟨⟨by omega, by omega⟩, ?_⟩; (conv => whnf))))
      refine store_step q (j * 3 + 2) _ (rowS orC (os.set j { o with t := r.turn + 1 })).toArray (ad3 q j 2) hq3 (os_put ho (by decide) rfl) (os_in hj (by decide)) (.inl (Nat.le_refl 0)) (one_int _ _) ?_
      have M4 := M3.trans (Moves.put M3.inn (.inl (by rw [P3.row]; simp)) (osO (os.set j { o with t := r.turn + 1 })))
      have P4 := P3.set j { o with t := r.turn + 1 } ⟨hok.s, hok.l, hok.sc, hok.lc, hok.sn, hok.ln⟩
      generalize F3.put q _ = F4 at M4 ⊢
      generalize D3.put q _ = D4 at M4 P4
      have hn4 : (os.set j { o with t := r.turn + 1 }).length = os.length := List.length_set
      have ho4 : (os.set j { o with t := r.turn + 1 })[j]? = some { o with t := r.turn + 1 } := by rw [List.getElem?_set_self hj]
      have ok4 : OrOk G { o with t := r.turn + 1 } := ⟨hok.s, hok.l, hok.sc, hok.lc, hok.sn, hok.ln⟩
      have hj4 : j < (os.set j { o with t := r.turn + 1 }).length := by rw [hn4]; exact hj
      have hLe : ∀ l (A5 : Option Addr) (c5 : Nat), ({ L := (r.L.set j (od { o with t := r.turn + 1 })).set j (od { o with t := r.turn + 1, l := l, lA := A5, lc := c5 }), turn := r.turn + 1, done := r.done + 1, arm := am, armed := r.armed, down := r.down } : RS) = rwriteO r (od o) (j : Int) l := fun l A5 c5 => by
        unfold rwriteO
        rw [List.set_set, if_pos (show (od o).t = 0 from ht), if_pos (show (od o).t = 0 from ht), Int.toNat_natCast, ham]
        rfl
      replace P4 : RkP _ b q (os.set j { o with t := r.turn + 1 }) G ⟨r.L.set j (od { o with t := r.turn + 1 }), r.turn + 1, r.done + 1, am, r.armed, r.down⟩ := P4
      have M5 := M4
      have hb5 : F4 b = some (rdO (.slice (some ⟨q, 0, none⟩) os.length os.length) (r.turn + 1) (r.done + 1) am r.armed r.down) := by have := M4.inn _ _ P4.cell; rw [hn4] at this; exact this
      have hq5 := M4.inn _ _ P4.row
      ((conv => whnf); repeat (first | (apply load_at; (conv => lhs; whnf); (with_reducible assumption); rfl; (conv => whnf)) | (apply load_at; (conv => lhs; rw [add_plain, add_plain]); (with_reducible assumption); rfl; (conv => whnf)) | (apply loads_at; (conv => lhs; whnf); (with_reducible assumption); rfl; (conv => whnf)) | (refine ⟨⟨by omega, by omega⟩, ?_⟩; (conv => whnf))))
      refine draw_walk tab_ok (by kernel_rfl) [0, 1, 2, 3, 4, 5, 6, 7, 8, 9] (by kernel_rfl) ?_
      ((conv => whnf); repeat (first | (apply load_at; (conv => lhs; whnf); (with_reducible assumption); rfl; (conv => whnf)) | (apply load_at; (conv => lhs; rw [add_plain, add_plain]); (with_reducible assumption); rfl; (conv => whnf)) | (apply loads_at; (conv => lhs; whnf); (with_reducible assumption); rfl; (conv => whnf)) | (refine ⟨⟨by omega, by omega⟩, ?_⟩; (conv => whnf))))
      refine append_mine tab_ok rfl rfl rfl rfl rfl ⟨_, rfl, fun k h => by cases h⟩ ⟨_, rfl, rfl⟩ (by decide) (Mine.nil F4 F4 _ _ (Ext.refl _)) (m := l.length) (ys := bytesOf l) (y := .slice A l.length c) ⟨by simp [bytesOf], .inl ⟨_, _, rfl, hr.mono (M4.keep hR hA)⟩⟩ (hone_bytes l) (by show 2 * (0 + l.length) * 1 ≤ _; omega) fun s' F5 h1 _ => ?_
      obtain ⟨A5, c5, rfl, hc5, hr5⟩ := h1.own.row
      have hnew : ∀ a, A5 = some a → F4 a.block = none := fun a ha => h1.fresh _ (by rw [ha]; rfl)
      replace hr5 : RowAt F5 A5 (bytesOf l) := hr5
      have E5 := h1.ext
      have hll : 0 + l.length = l.length := Nat.zero_add _
      (conv => whnf)
      refine ⟨E5, ?_⟩
      ((conv => whnf); repeat (first | (apply load_at; (conv => lhs; whnf); (with_reducible assumption); rfl; (conv => whnf)) | (apply load_at; (conv => lhs; rw [add_plain, add_plain]); (with_reducible assumption); rfl; (conv => whnf)) | (apply loads_at; (conv => lhs; whnf); (with_reducible assumption); rfl; (conv => whnf)) | (refine ⟨⟨by omega, by omega⟩, ?_⟩; (conv => whnf))))
      refine store_step q (j * 3 + 1) _ (rowS orC ((os.set j { o with t := r.turn + 1 }).set j { o with t := r.turn + 1, l := l, lA := A5, lc := c5 })).toArray (ad3 q j 1) (E5 _ _ hq5) (os_put ho4 (by decide) (by show _ = [Value.slice ({ o with t := r.turn + 1 } : OR).sA ({ o with t := r.turn + 1 } : OR).s.length ({ o with t := r.turn + 1 } : OR).sc, .slice A5 (0 + l.length) c5, .int .i64 ({ o with t := r.turn + 1 } : OR).t]; rw [hll]; rfl)) (os_in hj4 (by decide)) (.inl (Nat.le_refl 0)) (one_slice _ _ _) ?_
      obtain ⟨M6, P6⟩ := P4.setL M4.inn E5 ho4 (o' := { o with t := r.turn + 1, l := l, lA := A5, lc := c5 }) ⟨ok4.s.mono (gain_ext (P4.base.trans M4.inn)), rowAt_gain hr5 hnew, ok4.sc, (by omega : l.length ≤ c5), ok4.sn, .inr hl256⟩
      replace M6 := M4.trans M6
      ((conv => whnf); repeat (first | (apply load_at; (conv => lhs; whnf); (with_reducible assumption); rfl; (conv => whnf)) | (apply load_at; (conv => lhs; rw [add_plain, add_plain]); (with_reducible assumption); rfl; (conv => whnf)) | (apply loads_at; (conv => lhs; whnf); (with_reducible assumption); rfl; (conv => whnf)) | (refine ⟨⟨by omega, by omega⟩, ?_⟩; (conv => whnf))))
      refine ⟨by rw [hre]; rfl, _, M6, ?_⟩
      rw [hrs]
      refine ⟨hwf2, q, (os.set j { o with t := r.turn + 1 }).set j { o with t := r.turn + 1, l := l, lA := A5, lc := c5 }, gain G F4 F5, ?_⟩
      have e4 : ({ L := (r.L.set j (od { o with t := r.turn + 1 })).set j (od { o with t := r.turn + 1, l := l, lA := A5, lc := c5 }), turn := (r.turn + 1), done := r.done + 1, arm := am, armed := r.armed, down := r.down } : RS) = rwriteO r (od o) (j : Int) l := by
        exact hLe _ _ _
      show RkP _ _ _ _ _ (rwriteO r (od o) (j : Int) l)
      rw [← e4]
      exact P6
    · have h : (o.t == 0) = false := h
      have ht : ¬ o.t = 0 := by simpa using h
      have M4 := M2
      have P4 := P2
      have hn4 : os.length = os.length := rfl
      have ho4 := ho
      have ok4 := hok
      have hj4 := hj
      have M5 := M4
      have hb5 : F2 b = some (rdO (.slice (some ⟨q, 0, none⟩) os.length os.length) r.turn (r.done + 1) am r.armed r.down) := by have := M4.inn _ _ P4.cell; rw [hn4] at this; exact this
      have hq5 := M4.inn _ _ P4.row
      ((conv => whnf); repeat (first | (apply load_at; (conv => lhs; whnf); (with_reducible assumption); rfl; (conv => whnf)) | (apply load_at; (conv => lhs; rw [add_plain, add_plain]); (with_reducible assumption); rfl; (conv => whnf)) | (apply loads_at; (conv => lhs; whnf); (with_reducible assumption); rfl; (conv => whnf)) | (refine ⟨⟨by omega, by omega⟩, ?_⟩; (conv => whnf))))
      refine draw_walk tab_ok (by kernel_rfl) [0, 1, 2, 3, 4, 5, 6, 7, 8, 9] (by kernel_rfl) ?_
      ((conv => whnf); repeat (first | (apply load_at; (conv => lhs; whnf); (with_reducible assumption); rfl; (conv => whnf)) | (apply load_at; (conv => lhs; rw [add_plain, add_plain]); (with_reducible assumption); rfl; (conv => whnf)) | (apply loads_at; (conv => lhs; whnf); (with_reducible assumption); rfl; (conv => whnf)) | (refine ⟨⟨by omega, by omega⟩, ?_⟩; (conv => whnf))))
      refine append_mine tab_ok rfl rfl rfl rfl rfl ⟨_, rfl, fun k h => by cases h⟩ ⟨_, rfl, rfl⟩ (by decide) (Mine.nil F2 F2 _ _ (Ext.refl _)) (m := l.length) (ys := bytesOf l) (y := .slice A l.length c) ⟨by simp [bytesOf], .inl ⟨_, _, rfl, hr.mono (M4.keep hR hA)⟩⟩ (hone_bytes l) (by show 2 * (0 + l.length) * 1 ≤ _; omega) fun s' F5 h1 _ => ?_
      obtain ⟨A5, c5, rfl, hc5, hr5⟩ := h1.own.row
      have hnew : ∀ a, A5 = some a → F2 a.block = none := fun a ha => h1.fresh _ (by rw [ha]; rfl)
      replace hr5 : RowAt F5 A5 (bytesOf l) := hr5
      have E5 := h1.ext
      have hll : 0 + l.length = l.length := Nat.zero_add _
      (conv => whnf)
      refine ⟨E5, ?_⟩
      ((conv => whnf); repeat (first | (apply load_at; (conv => lhs; whnf); (with_reducible assumption); rfl; (conv => whnf)) | (apply load_at; (conv => lhs; rw [add_plain, add_plain]); (with_reducible assumption); rfl; (conv => whnf)) | (apply loads_at; (conv => lhs; whnf); (with_reducible assumption); rfl; (conv => whnf)) | (refine ⟨⟨by omega, by omega⟩, ?_⟩; (conv => whnf))))
      refine store_step q (j * 3 + 1) _ (rowS orC (os.set j { o with l := l, lA := A5, lc := c5 })).toArray (ad3 q j 1) (E5 _ _ hq5) (os_put ho4 (by decide) (by show _ = [Value.slice o.sA o.s.length o.sc, .slice A5 (0 + l.length) c5, .int .i64 o.t]; rw [hll]; rfl)) (os_in hj4 (by decide)) (.inl (Nat.le_refl 0)) (one_slice _ _ _) ?_
      obtain ⟨M6, P6⟩ := P4.setL M4.inn E5 ho4 (o' := { o with l := l, lA := A5, lc := c5 }) ⟨ok4.s.mono (gain_ext (P4.base.trans M4.inn)), rowAt_gain hr5 hnew, ok4.sc, (by omega : l.length ≤ c5), ok4.sn, .inr hl256⟩
      replace M6 := M4.trans M6
      ((conv => whnf); repeat (first | (apply load_at; (conv => lhs; whnf); (with_reducible assumption); rfl; (conv => whnf)) | (apply load_at; (conv => lhs; rw [add_plain, add_plain]); (with_reducible assumption); rfl; (conv => whnf)) | (apply loads_at; (conv => lhs; whnf); (with_reducible assumption); rfl; (conv => whnf)) | (refine ⟨⟨by omega, by omega⟩, ?_⟩; (conv => whnf))))
      refine ⟨by rw [hre]; rfl, _, M6, ?_⟩
      rw [hrs]
      refine ⟨hwf2, q, os.set j { o with l := l, lA := A5, lc := c5 }, gain G F2 F5, ?_⟩
      have e4 : ({ L := r.L.set j (od { o with l := l, lA := A5, lc := c5 }), turn := r.turn, done := r.done + 1, arm := am, armed := r.armed, down := r.down } : RS) = rwriteO r (od o) (j : Int) l := by
        unfold rwriteO
        rw [if_neg (show ¬ (od o).t = 0 from ht), if_neg (show ¬ (od o).t = 0 from ht), Int.toNat_natCast, ham]
        rfl
      show RkP _ _ _ _ _ (rwriteO r (od o) (j : Int) l)
      rw [← e4]
      exact P6
end Go.Proofs.YtmpiggcooboenaaDoor.Al
/- The reference's disks: Flush and Crash, over what is known of memory. -/
namespace Go.Proofs.YtmpiggcooboenaaDoor.Al
open Go Go.Al Go.Proofs Go.RowKit
set_option maxHeartbeats 8000000
set_option maxRecDepth 100000
set_option linter.unusedVariables false
set_option linter.unusedSimpArgs false
/-- The first j are changed. -/
def mixL {α : Type} (f : α → α) (j : Nat) (xs : List α) : List α := (xs.take j).map f ++ xs.drop j
theorem mixL_len {α : Type} (f : α → α) (j : Nat) (xs : List α) : (mixL f j xs).length = xs.length := by
  unfold mixL
  rw [List.length_append, List.length_map, List.length_take, List.length_drop]
  omega
theorem mixL_zero {α : Type} (f : α → α) (xs : List α) : mixL f 0 xs = xs := rfl
theorem mixL_all {α : Type} (f : α → α) (xs : List α) : mixL f xs.length xs = xs.map f := by
  unfold mixL
  rw [List.take_length, List.drop_length, List.append_nil]
theorem mixL_get {α : Type} (f : α → α) {j : Nat} {xs : List α} (h : j < xs.length) : (mixL f j xs)[j]? = xs[j]? := by
  unfold mixL
  rw [List.getElem?_append_right (by rw [List.length_map, List.length_take]; omega), List.length_map, List.length_take, Nat.min_eq_left (by omega), Nat.sub_self, List.getElem?_drop, Nat.add_zero]
theorem mixL_set {α : Type} (f : α → α) {j : Nat} {xs : List α} {x : α} (h : xs[j]? = some x) : (mixL f j xs).set j (f x) = mixL f (j + 1) xs := by
  have hj := (List.getElem?_eq_some_iff.1 h).1
  have hx := (List.getElem?_eq_some_iff.1 h).2
  unfold mixL
  rw [List.set_append_right _ _ (by rw [List.length_map, List.length_take]; omega), List.length_map, List.length_take, Nat.min_eq_left (by omega), Nat.sub_self, List.drop_eq_getElem_cons hj, List.set_cons_zero, List.take_add_one, h, List.map_append, List.append_assoc]
  rfl
theorem mixL_same {α : Type} (f : α → α) {j : Nat} {xs : List α} {x : α} (h : xs[j]? = some x) (e : f x = x) : mixL f (j + 1) xs = mixL f j xs := by
  rw [← mixL_set f h, e]
  have hj := (List.getElem?_eq_some_iff.1 h).1
  have h2 : (mixL f j xs)[j]? = some x := by rw [mixL_get f hj, h]
  obtain ⟨h3, h4⟩ := List.getElem?_eq_some_iff.1 h2
  rw [← h4]
  exact List.set_getElem_self h3
theorem RkP.setM {D : Heap} {b q : Nat} {os : List OR} {G : Heap} {tn dn am : Int} {ad dw : Bool} (h : RkP D b q os G ⟨os.map od, tn, dn, am, ad, dw⟩) (i : Nat) (o : OR) (ho : OrOk G o) :
    RkP (D.put q (osO (os.set i o))) b q (os.set i o) G ⟨(os.set i o).map od, tn, dn, am, ad, dw⟩ := by
  have := h.set i o ho
  rw [List.map_set]
  exact this
def fl (o : OD) : OD := if o.t > 0 then ⟨o.l, o.l, 0⟩ else o
def flR (o : OR) : OR := if o.t > 0 then ⟨o.l, o.l, 0, o.lA, o.lc, o.lA, o.lc⟩ else o
theorem fl_od (o : OR) : od (flR o) = fl (od o) := by
  unfold flR fl
  by_cases h : o.t > 0
  · rw [if_pos h, if_pos (show (od o).t > 0 from h)]; rfl
  · rw [if_neg h, if_neg (show ¬ (od o).t > 0 from h)]
def rflushS (r : RS) : RS := if r.down = true then r else { r with L := r.L.map fl, turn := 0 }
theorem rflush_wf {r : RS} (h : RWf r) : RWf { r with L := r.L.map fl, turn := 0 } := by
  have h1 := h.turn
  refine ⟨by show 3 ≤ (r.L.map fl).length ∧ (r.L.map fl).length ≤ 65536; rw [List.length_map]; exact h.len, ⟨(by decide : (0 : Int) ≤ 0), (by omega : 0 ≤ r.done)⟩, h.done, h.arm, fun o ho => ?_⟩
  obtain ⟨x, hx, rfl⟩ := List.mem_map.1 ho
  have := h.ts x hx
  unfold fl
  split
  · exact ⟨(by decide : (0 : Int) ≤ 0), (by decide : (0 : Int) ≤ 0)⟩
  · exact ⟨this.1, (by omega : x.t ≤ 0)⟩
theorem rflush {D F : Heap} {b : Nat} {r : RS} (hE : Ext D F) (hD : Rk D b r) :
    FnK Tryd.prog 89 #[.pointer (some ⟨b, 0, none⟩)] F (fun v F' => v = .int .i64 (if r.down = true then 5 else 0) ∧ ∃ D', Moves D F D' F' ∧ Rk D' b (rflushS r)) := by
  have hD0 := hD
  obtain ⟨hwf, q, os, G, hP⟩ := hD
  have hb := hE _ _ hP.cell
  have hlen : r.L.length = os.length := by rw [hP.L, List.length_map]
  have hle := hwf.len
  (refine fn_walk tab_ok Tryd.func89 rfl rfl rfl rfl ?_; (conv => whnf))
  ((conv => whnf); repeat (first | (apply load_at; (conv => lhs; whnf); (with_reducible assumption); rfl; (conv => whnf)) | (apply load_at; (conv => lhs; rw [add_plain, add_plain]); (with_reducible assumption); rfl; (conv => whnf)) | (apply loads_at; (conv => lhs; whnf); (with_reducible assumption); rfl; (conv => whnf)) | (refine ⟨⟨by omega, by omega⟩, ?_⟩; (conv => whnf))))
  refine cond_split (fun h => ?_) (fun h => ?_)
  · have hd : r.down = true := h
    ((conv => whnf); repeat (first | (apply load_at; (conv => lhs; whnf); (with_reducible assumption); rfl; (conv => whnf)) | (apply load_at; (conv => lhs; rw [add_plain, add_plain]); (with_reducible assumption); rfl; (conv => whnf)) | (apply loads_at; (conv => lhs; whnf); (with_reducible assumption); rfl; (conv => whnf)) | (refine ⟨⟨by omega, by omega⟩, ?_⟩; (conv => whnf))))
    exact ⟨by rw [if_pos hd]; rfl, D, Moves.refl hE, by unfold rflushS; rw [if_pos hd]; exact hD0⟩
  have hd : ¬ r.down = true := by have h : r.down = false := h
                                  rw [h]; decide
  ((conv => whnf); repeat (first | (apply load_at; (conv => lhs; whnf); (with_reducible assumption); rfl; (conv => whnf)) | (apply load_at; (conv => lhs; rw [add_plain, add_plain]); (with_reducible assumption); rfl; (conv => whnf)) | (apply loads_at; (conv => lhs; whnf); (with_reducible assumption); rfl; (conv => whnf)) | (refine ⟨⟨by omega, by omega⟩, ?_⟩; (conv => whnf))))
  refine loop_slots [0, 3] (fun k vs F' => ∃ (j : Nat) (D' : Heap), j + k = os.length ∧ vs = [.pointer (some ⟨b, 0, none⟩), .int .i64 (j : Int)] ∧ Moves D F D' F' ∧ RkP D' b q (mixL flR j os) G ⟨(mixL flR j os).map od, r.turn, r.done, r.arm, r.armed, r.down⟩) os.length ⟨0, D, by omega, rfl, Moves.refl hE, by rw [mixL_zero, ← hP.L]; exact hP⟩ ?_
  rintro k vs F2 ρ ⟨j, D', hjk, rfl, hM, hP'⟩
  have hb2 : F2 b = some (rdO (.slice (some ⟨q, 0, none⟩) os.length os.length) r.turn r.done r.arm r.armed r.down) := by have := hM.inn _ _ hP'.cell; rw [mixL_len] at this; exact this
  have hq2 := hM.inn _ _ hP'.row
  ((conv => whnf); repeat (first | (apply load_at; (conv => lhs; whnf); (with_reducible assumption); rfl; (conv => whnf)) | (apply load_at; (conv => lhs; rw [add_plain, add_plain]); (with_reducible assumption); rfl; (conv => whnf)) | (apply loads_at; (conv => lhs; whnf); (with_reducible assumption); rfl; (conv => whnf)) | (refine ⟨⟨by omega, by omega⟩, ?_⟩; (conv => whnf))))
  refine cond_split (fun h => ?_) (fun h => ?_)
  · have hj : j < os.length := by have := of_decide_eq_true h; omega
    obtain ⟨o, ho⟩ : ∃ o, os[j]? = some o := ⟨_, List.getElem?_eq_getElem hj⟩
    have hok := hP.ok o (List.mem_of_getElem? ho)
    have ho2 : (mixL flR j os)[j]? = some o := by rw [mixL_get flR hj]; exact ho
    have hj2 : j < (mixL flR j os).length := by rw [mixL_len]; exact hj
    have hws : IntKind.i64.wrap ((j : Int) + 1) = ((j + 1 : Nat) : Int) := wrap_succ (by omega)
    ((conv => whnf); repeat (first | (apply load_at; (conv => lhs; whnf); (with_reducible assumption); rfl; (conv => whnf)) | (apply load_at; (conv => lhs; rw [add_plain, add_plain]); (with_reducible assumption); rfl; (conv => whnf)) | (apply loads_at; (conv => lhs; whnf); (with_reducible assumption); rfl; (conv => whnf)) | (refine ⟨⟨by omega, by omega⟩, ?_⟩; (conv => whnf))))
    refine load_at (ad3 q j 2) hq2 (os_get ho2 rfl) ?_
    ((conv => whnf); repeat (first | (apply load_at; (conv => lhs; whnf); (with_reducible assumption); rfl; (conv => whnf)) | (apply load_at; (conv => lhs; rw [add_plain, add_plain]); (with_reducible assumption); rfl; (conv => whnf)) | (apply loads_at; (conv => lhs; whnf); (with_reducible assumption); rfl; (conv => whnf)) | (refine ⟨⟨by omega, by omega⟩, ?_⟩; (conv => whnf))))
    refine cond_split (fun h => ?_) (fun h => ?_)
    · have h : decide (o.t > 0) = true := h
      have ht : o.t > 0 := of_decide_eq_true h
      refine short [0, 3] [.pointer (some ⟨b, 0, none⟩), .int .i64 (j : Int)] rfl fun ρ => ?_
      (conv => whnf)
      refine draw_walk tab_ok (by kernel_rfl) [0, 1, 2, 3, 4, 5, 6, 7, 8, 9, 10, 11, 12, 13, 14, 15, 16, 17, 18, 19, 20, 21, 22, 23] (by kernel_rfl) ?_
      ((conv => whnf); repeat (first | (apply load_at; (conv => lhs; whnf); (with_reducible assumption); rfl; (conv => whnf)) | (apply load_at; (conv => lhs; rw [add_plain, add_plain]); (with_reducible assumption); rfl; (conv => whnf)) | (apply loads_at; (conv => lhs; whnf); (with_reducible assumption); rfl; (conv => whnf)) | (refine ⟨⟨by omega, by omega⟩, ?_⟩; (conv => whnf))))
      refine load_at (ad3 q j 1) hq2 (os_get ho2 rfl) ?_
      ((conv => whnf); repeat (first | (apply load_at; (conv => lhs; whnf); (with_reducible assumption); rfl; (conv => whnf)) | (apply load_at; (conv => lhs; rw [add_plain, add_plain]); (with_reducible assumption); rfl; (conv => whnf)) | (apply loads_at; (conv => lhs; whnf); (with_reducible assumption); rfl; (conv => whnf)) | (refine ⟨⟨by omega, by omega⟩, ?_⟩; (conv => whnf))))
      refine store_step q (j * 3 + 0) _ (rowS orC ((mixL flR j os).set j { o with s := o.l, sA := o.lA, sc := o.lc })).toArray (ad3 q j 0) hq2 (os_put ho2 (by decide) rfl) (os_in hj2 (by decide)) (.inl (Nat.le_refl 0)) (one_slice _ _ _) ?_
      have M3 := hM.trans (Moves.put hM.inn (.inl (by rw [hP'.row]; simp)) (osO ((mixL flR j os).set j { o with s := o.l, sA := o.lA, sc := o.lc })))
      have P3 := hP'.setM j { o with s := o.l, sA := o.lA, sc := o.lc } ⟨hok.l, hok.l, hok.lc, hok.lc, hok.ln, hok.ln⟩
      have hq3 := M3.inn _ _ P3.row
      generalize F2.put q _ = F3 at M3 hq3 ⊢
      generalize D'.put q _ = D3 at M3 P3
      have ho3 : ((mixL flR j os).set j { o with s := o.l, sA := o.lA, sc := o.lc })[j]? = some { o with s := o.l, sA := o.lA, sc := o.lc } := by rw [List.getElem?_set_self hj2]
      have hj3 : j < ((mixL flR j os).set j { o with s := o.l, sA := o.lA, sc := o.lc }).length := by rw [List.length_set]; exact hj2
      ((conv => whnf); repeat (first | (apply load_at; (conv => lhs; whnf); (with_reducible assumption); rfl; (conv => whnf)) | (apply load_at; (conv => lhs; rw [add_plain, add_plain]); (with_reducible assumption); rfl; (conv => whnf)) | (apply loads_at; (conv => lhs; whnf); (with_reducible assumption); rfl; (conv => whnf)) | (refine ⟨⟨by omega, by omega⟩, ?_⟩; (conv => whnf))))
      refine store_step q (j * 3 + 2) _ (rowS orC (((mixL flR j os).set j { o with s := o.l, sA := o.lA, sc := o.lc }).set j (flR o))).toArray (ad3 q j 2) hq3 (os_put ho3 (by decide) (by unfold flR; rw [if_pos ht]; rfl)) (os_in hj3 (by decide)) (.inl (Nat.le_refl 0)) (one_int _ _) ?_
      have hokf : OrOk G (flR o) := by unfold flR; rw [if_pos ht]; exact ⟨hok.l, hok.l, hok.lc, hok.lc, hok.ln, hok.ln⟩
      have M4 := M3.trans (Moves.put M3.inn (.inl (by rw [P3.row]; simp)) (osO (((mixL flR j os).set j { o with s := o.l, sA := o.lA, sc := o.lc }).set j (flR o))))
      have P4 := P3.setM j (flR o) hokf
      generalize F3.put q _ = F4 at M4 ⊢
      generalize D3.put q _ = D4 at M4 P4
      rw [List.set_set, mixL_set flR ho] at P4
      ((conv => whnf); repeat (first | (apply load_at; (conv => lhs; whnf); (with_reducible assumption); rfl; (conv => whnf)) | (apply load_at; (conv => lhs; rw [add_plain, add_plain]); (with_reducible assumption); rfl; (conv => whnf)) | (apply loads_at; (conv => lhs; whnf); (with_reducible assumption); rfl; (conv => whnf)) | (refine ⟨⟨by omega, by omega⟩, ?_⟩; (conv => whnf))))
      refine ⟨k - 1, by omega, j + 1, D4, by omega, ?_, M4, P4⟩
      rw [← hws]
      rfl
    · have h : decide (o.t > 0) = false := h
      have ht : ¬ o.t > 0 := of_decide_eq_false h
      ((conv => whnf); repeat (first | (apply load_at; (conv => lhs; whnf); (with_reducible assumption); rfl; (conv => whnf)) | (apply load_at; (conv => lhs; rw [add_plain, add_plain]); (with_reducible assumption); rfl; (conv => whnf)) | (apply loads_at; (conv => lhs; whnf); (with_reducible assumption); rfl; (conv => whnf)) | (refine ⟨⟨by omega, by omega⟩, ?_⟩; (conv => whnf))))
      refine ⟨k - 1, by omega, j + 1, D', by omega, ?_, hM, ?_⟩
      · rw [← hws]
        rfl
      · rw [mixL_same flR ho (by unfold flR; rw [if_neg ht])]
        exact hP'
  · have hj : j = os.length := by have := of_decide_eq_false h; omega
    subst hj
    rw [mixL_all] at hP'
    ((conv => whnf); repeat (first | (apply load_at; (conv => lhs; whnf); (with_reducible assumption); rfl; (conv => whnf)) | (apply load_at; (conv => lhs; rw [add_plain, add_plain]); (with_reducible assumption); rfl; (conv => whnf)) | (apply loads_at; (conv => lhs; whnf); (with_reducible assumption); rfl; (conv => whnf)) | (refine ⟨⟨by omega, by omega⟩, ?_⟩; (conv => whnf))))
    refine store_step b 1 _ (rdC (.slice (some ⟨q, 0, none⟩) os.length os.length) 0 r.done r.arm r.armed r.down) rfl hb2 rfl rfl (.inl (Nat.le_refl 0)) (one_int _ _) ?_
    ((conv => whnf); repeat (first | (apply load_at; (conv => lhs; whnf); (with_reducible assumption); rfl; (conv => whnf)) | (apply load_at; (conv => lhs; rw [add_plain, add_plain]); (with_reducible assumption); rfl; (conv => whnf)) | (apply loads_at; (conv => lhs; whnf); (with_reducible assumption); rfl; (conv => whnf)) | (refine ⟨⟨by omega, by omega⟩, ?_⟩; (conv => whnf))))
    have P5 := hP'.nums 0 r.done r.arm r.armed r.down
    rw [List.length_map] at P5
    refine ⟨by rw [if_neg hd]; rfl, _, hM.trans (Moves.put hM.inn (.inl (by rw [hP'.cell]; simp)) _), ?_⟩
    have e : ((os.map flR).map od) = r.L.map fl := by rw [hP.L, List.map_map, List.map_map]; exact List.map_congr_left fun o _ => fl_od o
    unfold rflushS
    rw [if_neg hd]
    refine ⟨rflush_wf hwf, q, os.map flR, G, ?_⟩
    rw [← e]
    exact P5
end Go.Proofs.YtmpiggcooboenaaDoor.Al
/- The reference's disks: Crash, over what is known of memory (printed by mkrcrash.py). -/
namespace Go.Proofs.YtmpiggcooboenaaDoor.Al
open Go Go.Al Go.Proofs Go.RowKit
set_option maxHeartbeats 8000000
set_option maxRecDepth 100000
set_option linter.unusedVariables false
set_option linter.unusedSimpArgs false
def cr (keep : List Int) (o : OD) : OD := if o.t > 0 ∧ o.t - 1 ∈ keep then ⟨o.l, o.l, 0⟩ else ⟨o.s, o.s, 0⟩
def crR (keep : List Int) (o : OR) : OR := if o.t > 0 ∧ o.t - 1 ∈ keep then ⟨o.l, o.l, 0, o.lA, o.lc, o.lA, o.lc⟩ else ⟨o.s, o.s, 0, o.sA, o.sc, o.sA, o.sc⟩
def rcrashS (r : RS) (keep : List Int) : RS := ⟨r.L.map (cr keep), 0, r.done, 0, false, false⟩
end Go.Proofs.YtmpiggcooboenaaDoor.Al
/- The reference's disks: Pending, over what is known of memory. -/
namespace Go.Proofs.YtmpiggcooboenaaDoor.Al
open Go Go.Al Go.Proofs Go.RowKit
set_option maxHeartbeats 8000000
set_option maxRecDepth 100000
set_option linter.unusedVariables false
set_option linter.unusedSimpArgs false
/-- The places, from i on, of the sectors with the number t. -/
def idxs (t : Int) : Nat → List OD → List Int
  | _, [] => []
  | i, o :: L => if o.t = t then (i : Int) :: idxs t (i + 1) L else idxs t (i + 1) L
def rpendL (L : List OD) : Nat → Int → List Int
  | 0, _ => []
  | n + 1, t => idxs t 0 L ++ rpendL L n (t + 1)
end Go.Proofs.YtmpiggcooboenaaDoor.Al
/- Disks: what is safe, in plain Lean. -/
namespace Go.Proofs.YtmpiggcooboenaaDoor.Al
open Go Go.Al Go.Proofs Go.RowKit
set_option maxHeartbeats 8000000
set_option linter.unusedVariables false
set_option linter.unusedSimpArgs false
theorem Moves.side {F D F' : Heap} (h : Moves emptyH F D F') {p : Nat} (hp : F p = none) (hd : D p = none) (o : Obj) : Moves emptyH F D (F'.put p o) :=
  ⟨h.inn.put hd o, (fun c u hc _ => by
    have hne : c ≠ p := fun e => by subst e; rw [hp] at hc; cases hc
    rw [Heap.put_other _ _ hne]; exact h.out c u hc rfl), h.new⟩
def safB (s : DS) (i : Int) : List UInt8 := match s.safe i with | some l => l | none => List.replicate 256 0
theorem secB_some {s : DS} {i : Int} {l : List UInt8} (h : s.fresh i = some l) : secB s i = l := by unfold secB; rw [h]
theorem secB_none {s : DS} {i : Int} (h : s.fresh i = none) : secB s i = safB s i := by unfold secB; rw [h]; rfl
structure DkCalm (s : DS) (j : Nat) : Prop where
  sz : s.size = 16
  ar : s.armed = false
  dn : s.down = false
  wr : s.writes = (j : Int)
theorem idxI_mem (l : List Int) (n : Int) (i : Nat) : idxI l n i ≥ 0 ↔ n ∈ l := decide_eq_decide.1 (idxI_ge l n i)
theorem setl_at (kp : Nat → Bool) (f : Int → Option (List UInt8)) : ∀ (l : List Int) (j : Nat) (sf : Int → Option (List UInt8)) (k : Int), l.Nodup → setl kp f l j sf k = if idxI l k j ≥ 0 ∧ kp (idxI l k j).toNat = true then f k else sf k := by
  intro l
  induction l with
  | nil =>
    intro j sf k _
    rw [if_neg (by rintro ⟨h, _⟩; exact absurd h (by show ¬ ((-1 : Int) ≥ 0); decide))]
    rfl
  | cons x l ih =>
    intro j sf k hn
    obtain ⟨h1, h2⟩ := List.nodup_cons.1 hn
    rw [setl_cons, ih (j + 1) _ k h2, idxI_cons]
    by_cases e : k = x
    · subst e
      have hnot : ¬ (idxI l k (j + 1) ≥ 0) := fun h => h1 ((idxI_mem l k (j + 1)).1 h)
      rw [if_neg (fun h => hnot h.1), if_pos rfl, Int.toNat_natCast]
      by_cases hk : kp j = true
      · rw [if_pos hk, if_pos ⟨by omega, hk⟩]
        unfold updF
        rw [if_pos rfl]
      · rw [if_neg hk, if_neg (fun h => hk h.2)]
    · rw [if_neg e]
      have : (if kp j = true then updF sf x (f x) else sf) k = sf k := by
        split
        · unfold updF; rw [if_neg e]
        · rfl
      rw [this]
/-- What the arrays say. -/
def Says (g : Int → List UInt8) (l : List UInt8) : Prop := l.length = 16 ∧ ∀ k : Nat, k < 16 → g k = List.replicate 256 (l.getD k 0)
theorem Says.set {g g' : Int → List UInt8} {l : List UInt8} (h : Says g l) {i : Nat} (hi : i < 16) (x : UInt8) (hg : ∀ k, g' k = if k = (i : Int) then List.replicate 256 x else g k) : Says g' (l.set i x) := by
  refine ⟨by rw [List.length_set]; exact h.1, fun k hk => ?_⟩
  rw [hg]
  by_cases e : k = i
  · subst e
    rw [if_pos rfl]
    simp [List.getD, h.1, hi]
  · rw [if_neg (by omega), h.2 k hk]
    simp [List.getD, List.getElem?_set, Ne.symm e]
theorem Says.congr {g g' : Int → List UInt8} {l : List UInt8} (h : Says g l) (hg : ∀ k, g' k = g k) : Says g' l := ⟨h.1, fun k hk => by rw [hg]; exact h.2 k hk⟩
end Go.Proofs.YtmpiggcooboenaaDoor.Al
/- Disks: the program's and the reference's go together, in plain Lean. -/
namespace Go.Proofs.YtmpiggcooboenaaDoor.Al
open Go Go.Al Go.Proofs Go.RowKit
set_option maxHeartbeats 8000000
set_option linter.unusedVariables false
set_option linter.unusedSimpArgs false
structure SimO (s : DS) (j : Nat) (o : OD) : Prop where
  f : (o.t = 0 ∧ s.fresh (j : Int) = none ∧ o.l = o.s) ∨ (0 < o.t ∧ s.order[(o.t - 1).toNat]? = some (j : Int) ∧ s.fresh (j : Int) = some o.l ∧ o.l.length = 256)
  k : (s.safe (j : Int) = none ∧ o.s = []) ∨ (s.safe (j : Int) = some o.s ∧ o.s.length = 256)
structure Sim (s : DS) (r : RS) : Prop where
  sz : s.size = (r.L.length : Int)
  ar : s.armed = r.armed
  lf : s.left = r.arm
  dn : s.down = r.down
  wr : s.writes = r.done
  tn : r.turn = (s.order.length : Int)
  el : ∀ j o, r.L[j]? = some o → SimO s j o
theorem sim_new (n : Nat) : Sim (newS (n : Int)) (newR n) := by
  refine ⟨by show (n : Int) = _; rw [show (newR n).L = List.replicate n ⟨[], [], 0⟩ from rfl, List.length_replicate], rfl, rfl, rfl, rfl, rfl, fun j o h => ?_⟩
  have h : (List.replicate n (⟨[], [], 0⟩ : OD))[j]? = some o := h
  rw [List.getElem?_replicate] at h
  split at h
  · cases h
    exact ⟨.inl ⟨rfl, rfl, rfl⟩, .inl ⟨rfl, rfl⟩⟩
  · cases h
theorem sim_read {s : DS} {r : RS} (h : Sim s r) (i : Int) : readE s i = rreadE r i ∧ readL s i = rreadL r i := by
  unfold readE rreadE readL rreadL
  rw [h.sz, h.dn]
  refine ⟨rfl, ?_⟩
  split
  · rfl
  · next hn =>
    have hi : 0 ≤ i ∧ i < (r.L.length : Int) := by
      by_cases e : 0 ≤ i ∧ i < (r.L.length : Int)
      · exact e
      · exact absurd (.inr e) hn
    obtain ⟨j, rfl⟩ : ∃ j : Nat, i = j := ⟨i.toNat, by omega⟩
    obtain ⟨o, ho⟩ : ∃ o, r.L[j]? = some o := ⟨_, List.getElem?_eq_getElem (by omega)⟩
    have hs := h.el j o ho
    have e : rsec r (j : Int) = fullB o.l := by unfold rsec; rw [Int.toNat_natCast, ho]
    rw [e]
    rcases hs.f with ⟨h1, h2, h3⟩ | ⟨h1, h2, h3, h4⟩
    · rw [secB_none h2, h3]
      unfold safB
      rcases hs.k with ⟨h5, h6⟩ | ⟨h5, h6⟩
      · rw [h5, h6]; rfl
      · rw [h5]
        unfold fullB
        rw [h6, Nat.sub_self]
        exact (List.append_nil _).symm
    · rw [secB_some h3]
      unfold fullB
      rw [h4, Nat.sub_self]
      exact (List.append_nil _).symm
theorem sim_write {s : DS} {r : RS} (h : Sim s r) (i : Int) (l : List UInt8) : writeE s i l = rwriteE r i l ∧ Sim (writeS s i l) (rwriteS r i l) := by
  have hb : (burnOk s.armed s.left = true) = ¬ (r.armed = true ∧ r.arm = 0) := by
    rw [h.ar, h.lf]
    unfold burnOk
    cases r.armed with
    | false => simp
    | true => simp
  unfold writeE rwriteE writeS rwriteS
  rw [h.sz, h.dn]
  by_cases hn : r.down = true ∨ ¬ (0 ≤ i ∧ i < (r.L.length : Int)) ∨ l.length ≠ 256
  · rw [if_pos hn, if_pos hn]
    refine ⟨?_, h⟩
    split
    · rfl
    · next hd => rw [if_pos (hn.resolve_left hd), if_pos (hn.resolve_left hd)]
  rw [if_neg hn, if_neg hn, if_neg (fun e => hn (.inl e)), if_neg (fun e => hn (.inr e)), if_neg (fun e => hn (.inl e)), if_neg (fun e => hn (.inr e))]
  by_cases ha : r.armed = true ∧ r.arm = 0
  · rw [if_pos ha, if_pos ha, if_neg (by rw [hb]; exact fun e => e ha), if_neg (by rw [hb]; exact fun e => e ha)]
    exact ⟨rfl, ⟨rfl, h.ar, h.lf, rfl, h.wr, h.tn, fun j o ho => ⟨(h.el j o ho).f, (h.el j o ho).k⟩⟩⟩
  rw [if_neg ha, if_neg ha, if_pos (by rw [hb]; exact ha), if_pos (by rw [hb]; exact ha)]
  refine ⟨rfl, ?_⟩
  have hl : l.length = 256 := by
    by_cases e : l.length = 256
    · exact e
    · exact absurd (.inr (.inr e)) hn
  have hi : 0 ≤ i ∧ i < (r.L.length : Int) := by
    by_cases e : 0 ≤ i ∧ i < (r.L.length : Int)
    · exact e
    · exact absurd (.inr (.inl e)) hn
  obtain ⟨j, rfl⟩ : ∃ j : Nat, i = j := ⟨i.toNat, by omega⟩
  have hj : j < r.L.length := by omega
  obtain ⟨o, ho⟩ : ∃ o, r.L[j]? = some o := ⟨_, List.getElem?_eq_getElem hj⟩
  have hs := h.el j o ho
  rw [Int.toNat_natCast, ho]
  have hfr : s.fresh (j : Int) = none ↔ o.t = 0 := by
    rcases hs.f with ⟨h1, h2, h3⟩ | ⟨h1, h2, h3, h4⟩
    · exact ⟨fun _ => h1, fun _ => h2⟩
    · exact ⟨fun e => (by rw [h3] at e; cases e), fun e => (by omega)⟩
  have htn := h.tn
  show Sim _ (rwriteO r o (j : Int) l)
  unfold rwriteO
  rw [Int.toNat_natCast]
  refine ⟨by show (r.L.length : Int) = ((r.L.set j _).length : Int); rw [List.length_set], h.ar, ?_, rfl, ?_, ?_, fun k p hp => ?_⟩
  · show (if s.armed = true then s.left - 1 else s.left) = if r.armed = true then r.arm - 1 else r.arm
    rw [h.ar, h.lf]
  · show s.writes + 1 = r.done + 1
    rw [h.wr]
  · show (if o.t = 0 then r.turn + 1 else r.turn) = ((if s.fresh (j : Int) = none then s.order ++ [(j : Int)] else s.order).length : Int)
    by_cases e : o.t = 0
    · rw [if_pos e, if_pos (hfr.2 e), List.length_append, htn]; rfl
    · rw [if_neg e, if_neg (fun x => e (hfr.1 x))]; exact htn
  · have hp : (r.L.set j ⟨o.s, l, if o.t = 0 then r.turn + 1 else o.t⟩)[k]? = some p := hp
    by_cases e : j = k
    · subst e
      rw [List.getElem?_set_self hj] at hp
      cases hp
      refine ⟨.inr ?_, hs.k⟩
      refine ⟨?_, ?_, ?_, hl⟩
      · show 0 < if o.t = 0 then r.turn + 1 else o.t
        split
        · omega
        · rcases hs.f with ⟨h1, _⟩ | ⟨h1, _⟩ <;> omega
      · show (if s.fresh (j : Int) = none then s.order ++ [(j : Int)] else s.order)[((if o.t = 0 then r.turn + 1 else o.t) - 1).toNat]? = _
        by_cases e : o.t = 0
        · rw [if_pos (hfr.2 e), if_pos e, htn, show ((s.order.length : Int) + 1 - 1).toNat = s.order.length by omega, List.getElem?_append_right (Nat.le_refl _), Nat.sub_self]
          rfl
        · rw [if_neg (fun x => e (hfr.1 x)), if_neg e]
          rcases hs.f with ⟨h1, _⟩ | ⟨_, h2, _⟩
          · exact absurd h1 e
          · exact h2
      · show updF s.fresh (j : Int) (some l) (j : Int) = _
        unfold updF
        rw [if_pos rfl]
    · rw [List.getElem?_set_ne e] at hp
      have hk := h.el k p hp
      refine ⟨?_, hk.k⟩
      have hu : updF s.fresh (j : Int) (some l) (k : Int) = s.fresh (k : Int) := by unfold updF; rw [if_neg (by omega)]
      rcases hk.f with ⟨h1, h2, h3⟩ | ⟨h1, h2, h3, h4⟩
      · exact .inl ⟨h1, hu.trans h2, h3⟩
      · refine .inr ⟨h1, ?_, hu.trans h3, h4⟩
        show (if s.fresh (j : Int) = none then s.order ++ [(j : Int)] else s.order)[(p.t - 1).toNat]? = _
        split
        · rw [List.getElem?_append_left (List.getElem?_eq_some_iff.1 h2).1]; exact h2
        · exact h2
theorem idxI_pos {l : List Int} (hn : l.Nodup) : ∀ {p : Nat} {k : Int} (i : Nat), l[p]? = some k → idxI l k i = ((i + p : Nat) : Int) := by
  induction l with
  | nil => intro p k i h; cases h
  | cons x l ih =>
    intro p k i h
    obtain ⟨h1, h2⟩ := List.nodup_cons.1 hn
    rw [idxI_cons]
    cases p with
    | zero =>
      have : x = k := by simpa using h
      rw [if_pos this.symm]
      rfl
    | succ p =>
      have h : l[p]? = some k := by simpa using h
      rw [if_neg (fun e => h1 (by rw [← e]; exact List.mem_of_getElem? h)), ih h2 (i + 1) h]
      congr 1
      omega
/-- Some of what was fresh is safe; the reference does the same to each sector. -/
theorem sim_settle {s : DS} {r : RS} (h : Sim s r) (hw : DWf s) (kp : Nat → Bool) (g : OD → OD) (hg : ∀ o, 0 ≤ o.t → g o = if 0 < o.t ∧ kp (o.t - 1).toNat = true then ⟨o.l, o.l, 0⟩ else ⟨o.s, o.s, 0⟩) :
    Sim (settleS s kp) { r with L := r.L.map g, turn := 0 } := by
  refine ⟨by show s.size = ((r.L.map g).length : Int); rw [List.length_map]; exact h.sz, h.ar, h.lf, h.dn, h.wr, rfl, fun j p hp => ?_⟩
  have hp : (r.L.map g)[j]? = some p := hp
  rw [List.getElem?_map] at hp
  obtain ⟨o, ho, rfl⟩ := Option.map_eq_some_iff.1 hp
  have hs := h.el j o ho
  have h0 : 0 ≤ o.t := by rcases hs.f with ⟨h1, _⟩ | ⟨h1, _⟩ <;> omega
  have hsf : (settleS s kp).safe (j : Int) = if 0 < o.t ∧ kp (o.t - 1).toNat = true then some o.l else s.safe (j : Int) := by
    show setl kp s.fresh s.order 0 s.safe (j : Int) = _
    rw [setl_at kp s.fresh s.order 0 s.safe (j : Int) hw.nod]
    rcases hs.f with ⟨h1, h2, h3⟩ | ⟨h1, h2, h3, h4⟩
    · rw [if_neg (by rintro ⟨e, _⟩; exact ((hw.fr j).1 ((idxI_mem _ _ _).1 e)) h2), if_neg (by omega)]
    · rw [idxI_pos hw.nod 0 h2, Int.toNat_natCast, Nat.zero_add, h3]
      by_cases e : kp (o.t - 1).toNat = true
      · rw [if_pos ⟨by omega, e⟩, if_pos ⟨h1, e⟩]
      · rw [if_neg (fun e2 => e e2.2), if_neg (fun e2 => e e2.2)]
  rw [hg o h0]
  by_cases e : 0 < o.t ∧ kp (o.t - 1).toNat = true
  · rw [if_pos e] at hsf ⊢
    refine ⟨.inl ⟨rfl, rfl, rfl⟩, .inr ⟨hsf, ?_⟩⟩
    rcases hs.f with ⟨h1, _⟩ | ⟨_, _, _, h4⟩
    · omega
    · exact h4
  · rw [if_neg e] at hsf ⊢
    refine ⟨.inl ⟨rfl, rfl, rfl⟩, ?_⟩
    rw [hsf]
    exact hs.k
theorem sim_flush {s : DS} {r : RS} (h : Sim s r) (hw : DWf s) : flushE s = (if r.down = true then 5 else 0) ∧ Sim (flushS s) (rflushS r) := by
  unfold flushE flushS rflushS
  rw [h.dn]
  refine ⟨rfl, ?_⟩
  split
  · exact h
  · have h2 : Sim (settleS s fun _ => true) { r with L := r.L.map fun o => if 0 < o.t ∧ (fun _ => true : Nat → Bool) (o.t - 1).toNat = true then ⟨o.l, o.l, 0⟩ else ⟨o.s, o.s, 0⟩, turn := 0 } := sim_settle h hw (fun _ => true) _ (fun o _ => rfl)
    have e : (r.L.map fun o : OD => if 0 < o.t ∧ (fun _ => true : Nat → Bool) (o.t - 1).toNat = true then (⟨o.l, o.l, 0⟩ : OD) else ⟨o.s, o.s, 0⟩) = r.L.map fl := List.map_congr_left fun o ho => by
      obtain ⟨j, hj⟩ := List.getElem?_of_mem ho
      have hs := h.el j o hj
      unfold fl
      rcases hs.f with ⟨h1, h2, h3⟩ | ⟨h1, h2, h3, h4⟩
      · rw [if_neg (by omega), if_neg (by omega)]
        obtain ⟨a, b, c⟩ := o
        simp at h1 h3
        subst h1 h3
        rfl
      · rw [if_pos ⟨h1, rfl⟩, if_pos h1]
    rw [e] at h2
    exact h2
end Go.Proofs.YtmpiggcooboenaaDoor.Al
/- Disks: two that go together; slices.Equal, exchequerlaw03.few, over what is known of memory. -/
namespace Go.Proofs.YtmpiggcooboenaaDoor.Al
open Go Go.Al Go.Proofs Go.RowKit
set_option maxHeartbeats 8000000
set_option maxRecDepth 100000
set_option linter.unusedVariables false
set_option linter.unusedSimpArgs false
def fewD (r : DoR) : Bool := decide (r.keep.length ≤ 60)
def fewL (rs : List DoR) : Bool := decide (rs.length ≤ 60) && rs.all fewD
/-- Two things, each in its own part of memory. -/
structure Both (F D X : Heap) (b xb : Nat) (s : DS) (r : RS) : Prop where
  d : Ext D F
  x : Ext X F
  dk : Dk D b s
  rk : Rk X xb r
  ap : Apart D X
/-- What stands apart from both stays. -/
def Steps (F D X F' D' X' : Heap) : Prop := ∀ R, Ext R F → Apart D R → Apart X R → Ext R F' ∧ Apart D' R ∧ Apart X' R
theorem Steps.refl (F D X : Heap) : Steps F D X F D X := fun R h1 h2 h3 => ⟨h1, h2, h3⟩
theorem Steps.trans {F D X F1 D1 X1 F2 D2 X2 : Heap} (h : Steps F D X F1 D1 X1) (k : Steps F1 D1 X1 F2 D2 X2) : Steps F D X F2 D2 X2 := fun R h1 h2 h3 => by
  obtain ⟨a, b, c⟩ := h R h1 h2 h3
  exact k R a b c
theorem Both.onD {F D X F' D' : Heap} {b xb : Nat} {s s' : DS} {r : RS} (h : Both F D X b xb s r) (hM : Moves D F D' F') (hk : Dk D' b s') : Both F' D' X b xb s' r ∧ Steps F D X F' D' X :=
  ⟨⟨hM.inn, hM.keep h.x h.ap, hk, h.rk, hM.apart h.x h.ap⟩, fun R h1 h2 h3 => ⟨hM.keep h1 h2, hM.apart h1 h2, h3⟩⟩
theorem Both.onX {F D X F' X' : Heap} {b xb : Nat} {s : DS} {r r' : RS} (h : Both F D X b xb s r) (hM : Moves X F X' F') (hk : Rk X' xb r') : Both F' D X' b xb s r' ∧ Steps F D X F' D X' :=
  ⟨⟨hM.keep h.d h.ap.symm, hM.inn, h.dk, hk, (hM.apart h.d h.ap.symm).symm⟩, fun R h1 h2 h3 => ⟨hM.keep h1 h3, h2, hM.apart h1 h3⟩⟩
theorem Both.ext {F D X F' : Heap} {b xb : Nat} {s : DS} {r : RS} (h : Both F D X b xb s r) (hE : Ext F F') : Both F' D X b xb s r ∧ Steps F D X F' D X :=
  ⟨⟨h.d.trans hE, h.x.trans hE, h.dk, h.rk, h.ap⟩, fun R h1 h2 h3 => ⟨h1.trans hE, h2, h3⟩⟩
/-- A block of one's own stands apart from what was there. -/
theorem side_ext {R F F' : Heap} (hR : Ext R F) {p : Nat} {o : Obj} (hE : Ext F F') (hp : F' p = some o) : Ext (R.put p o) F' := fun c u hc => by
  by_cases e : c = p
  · subst e; rw [Heap.put_same] at hc; rw [hp]; exact hc
  · rw [Heap.put_other _ _ e] at hc; exact hE _ _ (hR _ _ hc)
theorem side_apart {R D F : Heap} (hA : Apart D R) (hD : Ext D F) {p : Nat} (hp : F p = none) (o : Obj) : Apart D (R.put p o) := fun c hc => by
  rw [Heap.put_other _ _ (fun e => by subst e; exact hc (hD.none hp))]; exact hA c hc
end Go.Proofs.YtmpiggcooboenaaDoor.Al
/- Sectors: what they are in plain words, and the contracts of sector.Right, sealed, Pack. -/
namespace Go.Proofs.YtmpiggcooboenaaDoor.Al
open Go Go.Al Go.Proofs Go.RowKit
set_option maxHeartbeats 8000000
set_option maxRecDepth 100000
set_option linter.unusedVariables false
set_option linter.unusedSimpArgs false
theorem gB_inj : ∀ (l l' : List UInt8), l.length = l'.length → gB l = gB l' → l = l' := by
  intro l
  induction l with
  | nil => intro l' h _; exact (List.eq_nil_of_length_eq_zero h.symm).symm
  | cons x l ih =>
    intro l' h hg
    cases l' with
    | nil => cases h
    | cons y l' =>
      have hl : l.length = l'.length := by simpa using h
      rw [gB_cons, gB_cons, hl] at hg
      have h1 := gB_lt l
      have h2 := gB_lt l'
      rw [hl] at h1
      generalize 256 ^ l'.length = p at hg h1 h2
      have hx : x.toNat = y.toNat := by
        have e1 : (x.toNat * p + gB l) / p = x.toNat := by rw [Nat.mul_comm, Nat.mul_add_div (by omega), Nat.div_eq_of_lt h1, Nat.add_zero]
        have e2 : (y.toNat * p + gB l') / p = y.toNat := by rw [Nat.mul_comm, Nat.mul_add_div (by omega), Nat.div_eq_of_lt h2, Nat.add_zero]
        rw [← e1, ← e2, hg]
      rw [hx] at hg
      rw [UInt8.toNat_inj.1 hx, ih l' hl (by omega)]
theorem beM_getV {m : Nat} (l : List UInt8) (hm : m ≤ 8) (h : l.length = m) : beM m (getV l) = l := by
  refine gB_inj _ _ (by rw [beM_len, h]) ?_
  have h1 := gB_lt l
  rw [h] at h1
  have h2 : 256 ^ m ≤ 256 ^ 8 := Nat.pow_le_pow_right (by decide) hm
  have h3 : (getV l % 18446744073709551616).toNat = gB l := by
    unfold getV
    rw [IntKind.wrap_i64]
    omega
  rw [gB_beM, h3, Nat.mod_eq_of_lt h1]
theorem getN_at {b : List UInt8} {i m : Nat} (h : i + m ≤ b.length) : getN b i m = getV ((b.drop i).take m) := if_pos h
def secR (p q : Int) : Bool := inM 4 p && (decide (q ≥ 0) && decide (q ≤ 4611686018427387904))
def headB (p q : Int) (d : List UInt8) : List UInt8 := putM 8 (putM 4 [] p) q ++ d
def sealB (b : List UInt8) : List UInt8 := beM 4 (sumB b : Nat) ++ b
def packY (p q : Int) (d : List UInt8) : Bool := secR p q && (d.length == 240)
def packB (p q : Int) (d : List UInt8) : List UInt8 := if packY p q d = true then sealB (headB p q d) else []
def packE (p q : Int) (d : List UInt8) : Int := if packY p q d = true then 0 else 1
theorem inSum (b : List UInt8) : inM 4 (sumB b : Nat) = true := by
  have := sumB_lt b
  unfold inM
  rw [show Nat.beq 4 8 = false by decide, cond_false, Bool.and_eq_true, decide_eq_true_iff, decide_eq_true_iff, show ((256 ^ 4 : Nat) : Int) = 4294967296 by decide]
  omega
theorem putSum (b : List UInt8) : putM 4 [] (sumB b : Nat) = beM 4 (sumB b : Nat) := by
  unfold putM
  rw [inSum, cond_true, List.nil_append]
theorem sealB_len (b : List UInt8) : (sealB b).length = 4 + b.length := by
  unfold sealB
  rw [List.length_append, beM_len]
theorem headB_len {p q : Int} {d : List UInt8} (h : packY p q d = true) : (headB p q d).length = 252 := by
  unfold packY secR at h
  simp only [Bool.and_eq_true] at h
  unfold headB putM
  rw [h.1.1]
  have hd : d.length = 240 := by simpa using h.2
  simp [inM, beM_len, hd]
theorem packB_len {p q : Int} {d : List UInt8} (h : packY p q d = true) : (packB p q d).length = 256 := by
  unfold packB
  rw [if_pos h, sealB_len, headB_len h]
theorem secRight (p q : Int) (F : Heap) : FnK Tryd.prog 101 #[.int .i64 p, .int .i64 q] F (fun v F' => v = .bool (secR p q) ∧ F' = F) := by
  have h4 := rightG 4 (.inr (.inr (.inl rfl))) p F
  unfold secR
  generalize inM 4 p = z at h4
  (refine fn_walk tab_ok Tryd.func101 rfl rfl rfl rfl ?_; (conv => whnf))
  refine call_of h4 ?_
  rintro v _ ⟨rfl, rfl⟩
  cases z with
  | false =>
    ((conv => whnf); repeat (first | (apply load_at; (conv => lhs; whnf); (with_reducible assumption); rfl; (conv => whnf)) | (apply load_at; (conv => lhs; rw [add_plain, add_plain]); (with_reducible assumption); rfl; (conv => whnf)) | (apply loads_at; (conv => lhs; whnf); (with_reducible assumption); rfl; (conv => whnf)) | (refine ⟨⟨by omega, by omega⟩, ?_⟩; (conv => whnf))))
    exact ⟨rfl, rfl⟩
  | true =>
    ((conv => whnf); repeat (first | (apply load_at; (conv => lhs; whnf); (with_reducible assumption); rfl; (conv => whnf)) | (apply load_at; (conv => lhs; rw [add_plain, add_plain]); (with_reducible assumption); rfl; (conv => whnf)) | (apply loads_at; (conv => lhs; whnf); (with_reducible assumption); rfl; (conv => whnf)) | (refine ⟨⟨by omega, by omega⟩, ?_⟩; (conv => whnf))))
    refine cond_split (fun h => ?_) (fun h => ?_)
    · have h : decide (q ≥ 0) = true := h
      rw [h]
      ((conv => whnf); repeat (first | (apply load_at; (conv => lhs; whnf); (with_reducible assumption); rfl; (conv => whnf)) | (apply load_at; (conv => lhs; rw [add_plain, add_plain]); (with_reducible assumption); rfl; (conv => whnf)) | (apply loads_at; (conv => lhs; whnf); (with_reducible assumption); rfl; (conv => whnf)) | (refine ⟨⟨by omega, by omega⟩, ?_⟩; (conv => whnf))))
      exact ⟨rfl, rfl⟩
    · have h : decide (q ≥ 0) = false := h
      rw [h]
      ((conv => whnf); repeat (first | (apply load_at; (conv => lhs; whnf); (with_reducible assumption); rfl; (conv => whnf)) | (apply load_at; (conv => lhs; rw [add_plain, add_plain]); (with_reducible assumption); rfl; (conv => whnf)) | (apply loads_at; (conv => lhs; whnf); (with_reducible assumption); rfl; (conv => whnf)) | (refine ⟨⟨by omega, by omega⟩, ?_⟩; (conv => whnf))))
      exact ⟨rfl, rfl⟩
theorem sealed (b : List UInt8) (A : Option Addr) (c : Nat) (F : Heap) (hr : RowAt F A (bytesOf b)) (hl : b.length ≤ 900000) (hN : NibAt F) :
    FnK Tryd.prog 100 #[.slice A b.length c] F (fun v F' => Mine F F' v 5 1 (sealB b).length (bytesOf (sealB b))) := by
  have h1 := crcSum b A c F hr (by omega) hN
  have h2 := fun G h => putG 4 (.inr (.inr (.inl rfl))) [] none 0 (sumB b : Nat) G h (by decide)
  have hlen := beM_len 4 (sumB b : Nat)
  rw [putSum] at h2
  unfold sealB
  have hlt := sumB_lt b
  generalize sumB b = n at h1 h2 hlen hlt
  generalize beM 4 (n : Int) = m at h2 hlen
  (refine fn_walk tab_ok Tryd.func100 rfl rfl rfl rfl ?_; (conv => whnf))
  refine call_of h1 ?_
  rintro v _ ⟨rfl, rfl⟩
  ((conv => whnf); repeat (first | (apply load_at; (conv => lhs; whnf); (with_reducible assumption); rfl; (conv => whnf)) | (apply load_at; (conv => lhs; rw [add_plain, add_plain]); (with_reducible assumption); rfl; (conv => whnf)) | (apply loads_at; (conv => lhs; whnf); (with_reducible assumption); rfl; (conv => whnf)) | (refine ⟨⟨by omega, by omega⟩, ?_⟩; (conv => whnf))))
  rw [wrap_eq (show -9223372036854775808 ≤ ((n : Nat) : Int) by omega) (by omega)]
  refine call_of (h2 _ (RowAt.nil _ _)) ?_
  rintro v F1 hM
  ((conv => whnf); repeat (first | (apply load_at; (conv => lhs; whnf); (with_reducible assumption); rfl; (conv => whnf)) | (apply load_at; (conv => lhs; rw [add_plain, add_plain]); (with_reducible assumption); rfl; (conv => whnf)) | (apply loads_at; (conv => lhs; whnf); (with_reducible assumption); rfl; (conv => whnf)) | (refine ⟨⟨by omega, by omega⟩, ?_⟩; (conv => whnf))))
  refine append_mine tab_ok rfl rfl rfl rfl rfl ⟨_, rfl, fun k h => by cases h⟩ ⟨_, rfl, rfl⟩ (by decide) hM (m := b.length) (ys := bytesOf b) (y := .slice A b.length c) ⟨by rw [bytes_len]; exact (Nat.mul_one _).symm, .inl ⟨_, _, rfl, hr.mono hM.ext⟩⟩ (hone_bytes _) (by show 2 * (m.length + b.length) * 1 ≤ _; omega) fun S2 F2 hM2 hk2 => ?_
  ((conv => whnf); repeat (first | (apply load_at; (conv => lhs; whnf); (with_reducible assumption); rfl; (conv => whnf)) | (apply load_at; (conv => lhs; rw [add_plain, add_plain]); (with_reducible assumption); rfl; (conv => whnf)) | (apply loads_at; (conv => lhs; whnf); (with_reducible assumption); rfl; (conv => whnf)) | (refine ⟨⟨by omega, by omega⟩, ?_⟩; (conv => whnf))))
  rw [List.length_append, bytes_app]
  exact hM2
theorem pack (p q : Int) (d : List UInt8) (A : Option Addr) (c : Nat) (F : Heap) (hr : RowAt F A (bytesOf d)) (hl : d.length ≤ 900000) (hN : NibAt F) :
    FnK Tryd.prog 106 #[.int .i64 p, .int .i64 q, .slice A d.length c] F (fun v F' => ∃ u, v = .tuple #[u, .int .i64 (packE p q d)] ∧ NewRow F F' u (packB p q d) ∧ Ext F F') := by
  have h0 := secRight p q F
  have h1 := fun G h => putG 4 (.inr (.inr (.inl rfl))) [] none 0 p G h (by decide)
  have e1 : (putM 4 [] p).length ≤ 4 := Nat.le_trans (putM_len 4 [] p) (by decide)
  have h2 := fun A c G h => putG 8 (.inr (.inr (.inr rfl))) (putM 4 [] p) A c q G h (by omega)
  have e2 : (putM 8 (putM 4 [] p) q).length ≤ 12 := Nat.le_trans (putM_len 8 _ q) (by omega)
  have h3 := fun A c G h hl => sealed (headB p q d) A c G h hl
  have hP : packY p q d = (secR p q && (d.length == 240)) := rfl
  have hB : packB p q d = if packY p q d = true then sealB (headB p q d) else [] := rfl
  have hE : packE p q d = if packY p q d = true then 0 else 1 := rfl
  have hH : headB p q d = putM 8 (putM 4 [] p) q ++ d := rfl
  generalize sealB (headB p q d) = sb at h3 hB
  generalize headB p q d = hb at h3 hH
  generalize putM 8 (putM 4 [] p) q = m2 at h2 e2 hH
  generalize putM 4 [] p = m1 at h1 h2 e1
  generalize packB p q d = pb at hB
  generalize packE p q d = pe at hE
  rw [hP] at hB hE
  generalize secR p q = z at h0 hB hE
  subst hH
  (refine fn_walk tab_ok Tryd.func106 rfl rfl rfl rfl ?_; (conv => whnf))
  refine call_of h0 ?_
  rintro v _ ⟨rfl, rfl⟩
  cases z with
  | false =>
    obtain rfl : pb = [] := hB
    obtain rfl : pe = 1 := hE
    ((conv => whnf); repeat (first | (apply load_at; (conv => lhs; whnf); (with_reducible assumption); rfl; (conv => whnf)) | (apply load_at; (conv => lhs; rw [add_plain, add_plain]); (with_reducible assumption); rfl; (conv => whnf)) | (apply loads_at; (conv => lhs; whnf); (with_reducible assumption); rfl; (conv => whnf)) | (refine ⟨⟨by omega, by omega⟩, ?_⟩; (conv => whnf))))
    exact ⟨_, rfl, newRow_nil _, Ext.refl _⟩
  | true =>
    rw [Bool.true_and] at hB hE
    ((conv => whnf); repeat (first | (apply load_at; (conv => lhs; whnf); (with_reducible assumption); rfl; (conv => whnf)) | (apply load_at; (conv => lhs; rw [add_plain, add_plain]); (with_reducible assumption); rfl; (conv => whnf)) | (apply loads_at; (conv => lhs; whnf); (with_reducible assumption); rfl; (conv => whnf)) | (refine ⟨⟨by omega, by omega⟩, ?_⟩; (conv => whnf))))
    refine cond_split (fun h => ?_) (fun h => ?_)
    · have hd : ¬ d.length = 240 := by
        have h : ((d.length : Int) != 240) = true := h
        simp only [bne_iff_ne, ne_eq] at h
        omega
      rw [if_neg (by simpa using hd)] at hB hE
      subst hB hE
      ((conv => whnf); repeat (first | (apply load_at; (conv => lhs; whnf); (with_reducible assumption); rfl; (conv => whnf)) | (apply load_at; (conv => lhs; rw [add_plain, add_plain]); (with_reducible assumption); rfl; (conv => whnf)) | (apply loads_at; (conv => lhs; whnf); (with_reducible assumption); rfl; (conv => whnf)) | (refine ⟨⟨by omega, by omega⟩, ?_⟩; (conv => whnf))))
      exact ⟨_, rfl, newRow_nil _, Ext.refl _⟩
    · have hd : d.length = 240 := by
        have h : ((d.length : Int) != 240) = false := h
        simp only [bne_eq_false_iff_eq] at h
        omega
      rw [if_pos (by simpa using hd)] at hB hE
      subst hB hE
      ((conv => whnf); repeat (first | (apply load_at; (conv => lhs; whnf); (with_reducible assumption); rfl; (conv => whnf)) | (apply load_at; (conv => lhs; rw [add_plain, add_plain]); (with_reducible assumption); rfl; (conv => whnf)) | (apply loads_at; (conv => lhs; whnf); (with_reducible assumption); rfl; (conv => whnf)) | (refine ⟨⟨by omega, by omega⟩, ?_⟩; (conv => whnf))))
      refine call_of (h1 _ (RowAt.nil _ _)) ?_
      rintro v F1 hM1
      obtain ⟨A1, c1, rfl, _, hr1⟩ := hM1.own.row
      ((conv => whnf); repeat (first | (apply load_at; (conv => lhs; whnf); (with_reducible assumption); rfl; (conv => whnf)) | (apply load_at; (conv => lhs; rw [add_plain, add_plain]); (with_reducible assumption); rfl; (conv => whnf)) | (apply loads_at; (conv => lhs; whnf); (with_reducible assumption); rfl; (conv => whnf)) | (refine ⟨⟨by omega, by omega⟩, ?_⟩; (conv => whnf))))
      refine call_of (h2 _ _ F1 hr1) ?_
      rintro v F2 hM2
      have hE2 := hM1.ext.trans hM2.ext
      ((conv => whnf); repeat (first | (apply load_at; (conv => lhs; whnf); (with_reducible assumption); rfl; (conv => whnf)) | (apply load_at; (conv => lhs; rw [add_plain, add_plain]); (with_reducible assumption); rfl; (conv => whnf)) | (apply loads_at; (conv => lhs; whnf); (with_reducible assumption); rfl; (conv => whnf)) | (refine ⟨⟨by omega, by omega⟩, ?_⟩; (conv => whnf))))
      refine append_mine tab_ok rfl rfl rfl rfl rfl ⟨_, rfl, fun k h => by cases h⟩ ⟨_, rfl, rfl⟩ (by decide) hM2 (m := d.length) (ys := bytesOf d) (y := .slice A d.length c) ⟨by rw [bytes_len]; exact (Nat.mul_one _).symm, .inl ⟨_, _, rfl, hr.mono hE2⟩⟩ (hone_bytes _) (by show 2 * (m2.length + d.length) * 1 ≤ _; omega) fun S3 F3 hM3 hk3 => ?_
      rw [← bytes_app, ← List.length_append] at hM3
      have hE3 := hM1.ext.trans hM3.ext
      obtain ⟨A3, c3, rfl, _, hr3⟩ := hM3.own.row
      ((conv => whnf); repeat (first | (apply load_at; (conv => lhs; whnf); (with_reducible assumption); rfl; (conv => whnf)) | (apply load_at; (conv => lhs; rw [add_plain, add_plain]); (with_reducible assumption); rfl; (conv => whnf)) | (apply loads_at; (conv => lhs; whnf); (with_reducible assumption); rfl; (conv => whnf)) | (refine ⟨⟨by omega, by omega⟩, ?_⟩; (conv => whnf))))
      refine call_of (h3 A3 c3 F3 hr3 (by rw [List.length_append]; omega) (hN.mono hE3)) ?_
      rintro v F4 hM4
      ((conv => whnf); repeat (first | (apply load_at; (conv => lhs; whnf); (with_reducible assumption); rfl; (conv => whnf)) | (apply load_at; (conv => lhs; rw [add_plain, add_plain]); (with_reducible assumption); rfl; (conv => whnf)) | (apply loads_at; (conv => lhs; whnf); (with_reducible assumption); rfl; (conv => whnf)) | (refine ⟨⟨by omega, by omega⟩, ?_⟩; (conv => whnf))))
      obtain ⟨A4, c4, rfl, g1, g2⟩ := hM4.own.row
      refine ⟨_, rfl, ⟨A4, c4, rfl, g1, g2, fun a ha => ?_⟩, hE3.trans hM4.ext⟩
      subst ha
      exact hE3.none (hM4.fresh a.block rfl)
end Go.Proofs.YtmpiggcooboenaaDoor.Al
/- The logic of a known part of memory, 17: rows of structs: an append of zeros that grows, a copy to a place of a row. -/
namespace Go.Al
open Go
theorem call_args {P : Program} {f : FuncId} {xs xs' : Array Value} {F : Heap} {K : Value → Heap → Prop} (e : xs = xs') (h : CallK P f xs' F K) : CallK P f xs F K := e ▸ h
end Go.Al
/- Sectors: the contracts of sector.Unpack, and of the reference's Right, Pack, Unpack. -/
namespace Go.Proofs.YtmpiggcooboenaaDoor.Al
open Go Go.Al Go.Proofs Go.RowKit
set_option maxHeartbeats 8000000
set_option maxRecDepth 100000
set_option linter.unusedVariables false
set_option linter.unusedSimpArgs false
def okU (b : List UInt8) : Bool := (b.length == 256) && ((sealB (b.drop 4) == b) && secR (getN b 4 4) (getN b 8 8))
def unP (b : List UInt8) : Int := if okU b = true then getN b 4 4 else 0
def unQ (b : List UInt8) : Int := if okU b = true then getN b 8 8 else 0
def unD (b : List UInt8) : List UInt8 := if okU b = true then b.drop 16 else []
def unE (b : List UInt8) : Int := if okU b = true then 0 else 4
theorem newRow_nil' (F F' : Heap) : NewRow F F' (.slice none 0 0) [] := ⟨none, 0, rfl, Nat.le_refl 0, RowAt.nil _ _, fun a h => by cases h⟩
theorem unpack (b : List UInt8) (A : Option Addr) (c : Nat) (F : Heap) (hr : RowAt F A (bytesOf b)) (hl : b.length ≤ 900000) (hc : b.length ≤ c) (hN : NibAt F) :
    FnK Tryd.prog 61 #[.slice A b.length c] F (fun v F' => ∃ u, v = .tuple #[.int .i64 (unP b), .int .i64 (unQ b), u, .int .i64 (unE b)] ∧ NewRow F F' u (unD b) ∧ Ext F F') := by
  have hOk : okU b = ((b.length == 256) && ((sealB (b.drop 4) == b) && secR (getN b 4 4) (getN b 8 8))) := rfl
  unfold unP unQ unD unE
  by_cases hb : b.length = 256
  · have hdl : (b.drop 4).length = 252 := by rw [List.length_drop, hb]
    have hdl2 : (b.drop 16).length = 240 := by rw [List.length_drop, hb]
    have k1 : b.length - 4 = (b.drop 4).length := by rw [List.length_drop]
    have k2 : b.length - 16 = (b.drop 16).length := by rw [List.length_drop]
    have h1 := fun A c F h hN => sealed (b.drop 4) A c F h (by omega) hN
    have hsl : (sealB (b.drop 4)).length = 256 := by rw [sealB_len, hdl]
    have h2 := fun A B c e F hx hy => bytesEqual (sealB (b.drop 4)) b A B c e F hx hy
    have h3 := fun F h => getG 4 (.inr (.inr (.inl rfl))) b A c 4 F h (by omega) hc (by decide)
    have h4 := fun F h => getG 8 (.inr (.inr (.inr rfl))) b A c 8 F h (by omega) hc (by decide)
    have h5 := fun F => secRight (getN b 4 4) (getN b 8 8) F
    have h6 := fun A c F h => clone (b.drop 16) A c F h (by omega)
    have r1 : ∀ F, RowAt F A (bytesOf b) → RowAt F (if c = 4 then A else A.map (·.add (4 * 1))) (bytesOf (b.drop 4)) := fun F h => by
      have := row_cut3 4 252 c 4 h rfl (by omega) (by omega)
      rwa [List.take_of_length_le (by omega)] at this
    have r2 : ∀ F, RowAt F A (bytesOf b) → RowAt F (if c = 16 then A else A.map (·.add (16 * 1))) (bytesOf (b.drop 16)) := fun F h => by
      have := row_cut3 16 240 c 16 h rfl (by omega) (by omega)
      rwa [List.take_of_length_le (by omega)] at this
    generalize getN b 4 4 = p at h3 h5 hOk ⊢
    generalize getN b 8 8 = q at h4 h5 hOk ⊢
    generalize getE b 4 4 = e3 at h3
    generalize getE b 8 8 = e4 at h4
    generalize secR p q = z at h5 hOk
    generalize sealB (b.drop 4) = sb at h1 h2 hsl hOk
    generalize (sb == b) = y at h2 hOk
    generalize b.drop 4 = b4 at h1 r1 k1 hdl
    generalize b.drop 16 = b16 at h6 r2 k2 hdl2 ⊢
    rw [show (b.length == 256) = true by simpa using hb, Bool.true_and] at hOk
    rw [hOk]
    clear hOk
    (refine fn_walk tab_ok Tryd.func61 rfl rfl rfl rfl ?_; (conv => whnf))
    refine cond_split (fun h => ?_) (fun h => ?_)
    rotate_left
    · exact absurd hb (by
        have h : (!((b.length : Int) != 256)) = false := h
        simp only [Bool.not_eq_false', bne_iff_ne, ne_eq] at h
        omega)
    clear h
    ((conv => whnf); repeat (first | (apply load_at; (conv => lhs; whnf); (with_reducible assumption); rfl; (conv => whnf)) | (apply load_at; (conv => lhs; rw [add_plain, add_plain]); (with_reducible assumption); rfl; (conv => whnf)) | (apply loads_at; (conv => lhs; whnf); (with_reducible assumption); rfl; (conv => whnf)) | (refine ⟨⟨by omega, by omega⟩, ?_⟩; (conv => whnf))))
    refine call_args (xs' := #[.slice (if c = 4 then A else A.map (·.add (4 * 1))) b4.length (c - 4)]) ?hq (call_of (h1 _ _ F (r1 F hr) hN) ?_)
    case hq =>
      refine congrArg (fun x => #[x]) (slice_eq rfl ?_ rfl)
      exact k1
    rintro v F1 hM1
    obtain ⟨A1, c1, rfl, _, hr1⟩ := hM1.own.row
    ((conv => whnf); repeat (first | (apply load_at; (conv => lhs; whnf); (with_reducible assumption); rfl; (conv => whnf)) | (apply load_at; (conv => lhs; rw [add_plain, add_plain]); (with_reducible assumption); rfl; (conv => whnf)) | (apply loads_at; (conv => lhs; whnf); (with_reducible assumption); rfl; (conv => whnf)) | (refine ⟨⟨by omega, by omega⟩, ?_⟩; (conv => whnf))))
    refine call_of (h2 A1 A c1 c F1 hr1 (hr.mono hM1.ext)) ?_
    rintro v _ ⟨rfl, rfl⟩
    have hr' := hr.mono hM1.ext
    have hE1 := hM1.ext
    cases y with
    | false =>
      ((conv => whnf); repeat (first | (apply load_at; (conv => lhs; whnf); (with_reducible assumption); rfl; (conv => whnf)) | (apply load_at; (conv => lhs; rw [add_plain, add_plain]); (with_reducible assumption); rfl; (conv => whnf)) | (apply loads_at; (conv => lhs; whnf); (with_reducible assumption); rfl; (conv => whnf)) | (refine ⟨⟨by omega, by omega⟩, ?_⟩; (conv => whnf))))
      exact ⟨_, rfl, newRow_nil' _ _, hE1⟩
    | true =>
    rw [Bool.true_and]
    clear h1 h2 hr hM1 hr1
    refine short [0, 13, 18] [.slice A b.length c, .bool false, .bool true] rfl fun ρ => ?_
    ((conv => whnf); repeat (first | (apply load_at; (conv => lhs; whnf); (with_reducible assumption); rfl; (conv => whnf)) | (apply load_at; (conv => lhs; rw [add_plain, add_plain]); (with_reducible assumption); rfl; (conv => whnf)) | (apply loads_at; (conv => lhs; whnf); (with_reducible assumption); rfl; (conv => whnf)) | (refine ⟨⟨by omega, by omega⟩, ?_⟩; (conv => whnf))))
    refine call_of (h3 _ hr') ?_
    rintro v _ ⟨rfl, rfl⟩
    ((conv => whnf); repeat (first | (apply load_at; (conv => lhs; whnf); (with_reducible assumption); rfl; (conv => whnf)) | (apply load_at; (conv => lhs; rw [add_plain, add_plain]); (with_reducible assumption); rfl; (conv => whnf)) | (apply loads_at; (conv => lhs; whnf); (with_reducible assumption); rfl; (conv => whnf)) | (refine ⟨⟨by omega, by omega⟩, ?_⟩; (conv => whnf))))
    refine call_of (h4 _ hr') ?_
    rintro v _ ⟨rfl, rfl⟩
    ((conv => whnf); repeat (first | (apply load_at; (conv => lhs; whnf); (with_reducible assumption); rfl; (conv => whnf)) | (apply load_at; (conv => lhs; rw [add_plain, add_plain]); (with_reducible assumption); rfl; (conv => whnf)) | (apply loads_at; (conv => lhs; whnf); (with_reducible assumption); rfl; (conv => whnf)) | (refine ⟨⟨by omega, by omega⟩, ?_⟩; (conv => whnf))))
    refine call_of (h5 _) ?_
    rintro v _ ⟨rfl, rfl⟩
    cases z with
    | false =>
      ((conv => whnf); repeat (first | (apply load_at; (conv => lhs; whnf); (with_reducible assumption); rfl; (conv => whnf)) | (apply load_at; (conv => lhs; rw [add_plain, add_plain]); (with_reducible assumption); rfl; (conv => whnf)) | (apply loads_at; (conv => lhs; whnf); (with_reducible assumption); rfl; (conv => whnf)) | (refine ⟨⟨by omega, by omega⟩, ?_⟩; (conv => whnf))))
      exact ⟨_, rfl, newRow_nil' _ _, hE1⟩
    | true =>
    ((conv => whnf); repeat (first | (apply load_at; (conv => lhs; whnf); (with_reducible assumption); rfl; (conv => whnf)) | (apply load_at; (conv => lhs; rw [add_plain, add_plain]); (with_reducible assumption); rfl; (conv => whnf)) | (apply loads_at; (conv => lhs; whnf); (with_reducible assumption); rfl; (conv => whnf)) | (refine ⟨⟨by omega, by omega⟩, ?_⟩; (conv => whnf))))
    refine call_args (xs' := #[.slice (if c = 16 then A else A.map (·.add (16 * 1))) b16.length (c - 16)]) ?hq2 (call_of (h6 _ _ _ (r2 _ hr')) ?_)
    case hq2 => exact congrArg (fun x => #[x]) (slice_eq rfl k2 rfl)
    rintro v F3 hM3
    obtain ⟨A3, c3, rfl, g1, g2⟩ := hM3.own.row
    ((conv => whnf); repeat (first | (apply load_at; (conv => lhs; whnf); (with_reducible assumption); rfl; (conv => whnf)) | (apply load_at; (conv => lhs; rw [add_plain, add_plain]); (with_reducible assumption); rfl; (conv => whnf)) | (apply loads_at; (conv => lhs; whnf); (with_reducible assumption); rfl; (conv => whnf)) | (refine ⟨⟨by omega, by omega⟩, ?_⟩; (conv => whnf))))
    refine ⟨_, rfl, ⟨A3, c3, rfl, g1, g2, fun a ha => ?_⟩, hE1.trans hM3.ext⟩
    subst ha
    exact hE1.none (hM3.fresh a.block rfl)
  · rw [show (b.length == 256) = false by simpa using hb, Bool.false_and] at hOk
    rw [hOk]
    have hb' : ((b.length : Int) != 256) = true := by
      rw [bne_iff_ne]
      omega
    clear hOk
    show FnK _ _ _ F (fun v F' => ∃ u, v = .tuple #[.int .i64 0, .int .i64 0, u, .int .i64 4] ∧ NewRow F F' u [] ∧ Ext F F')
    (refine fn_walk tab_ok Tryd.func61 rfl rfl rfl rfl ?_; (conv => whnf))
    refine cond_split (fun h => ?_) (fun h => ?_)
    · exact absurd (by
        have h : (!((b.length : Int) != 256)) = true := h
        simp only [Bool.not_eq_true', bne_eq_false_iff_eq] at h
        omega) hb
    clear h
    ((conv => whnf); repeat (first | (apply load_at; (conv => lhs; whnf); (with_reducible assumption); rfl; (conv => whnf)) | (apply load_at; (conv => lhs; rw [add_plain, add_plain]); (with_reducible assumption); rfl; (conv => whnf)) | (apply loads_at; (conv => lhs; whnf); (with_reducible assumption); rfl; (conv => whnf)) | (refine ⟨⟨by omega, by omega⟩, ?_⟩; (conv => whnf))))
    exact ⟨_, rfl, newRow_nil' _ _, Ext.refl _⟩
theorem rsecRight (p q : Int) (F : Heap) : FnK Tryd.prog 115 #[.int .i64 p, .int .i64 q] F (fun v F' => v = .bool (secR p q) ∧ F' = F) := by
  have e : secR p q = (decide (p ≥ 0) && (decide (p < 4294967296) && (decide (q ≥ 0) && decide (q ≤ 4611686018427387904)))) := by
    unfold secR inM
    rw [show Nat.beq 4 8 = false by decide, cond_false, show ((256 ^ 4 : Nat) : Int) = 4294967296 by decide, Bool.and_assoc]
  rw [e]
  (refine fn_walk tab_ok Tryd.func115 rfl rfl rfl rfl ?_; (conv => whnf))
  refine cond_split (fun h => ?_) (fun h => ?_)
  rotate_left
  · have h : decide (p ≥ 0) = false := h
    rw [h]
    ((conv => whnf); repeat (first | (apply load_at; (conv => lhs; whnf); (with_reducible assumption); rfl; (conv => whnf)) | (apply load_at; (conv => lhs; rw [add_plain, add_plain]); (with_reducible assumption); rfl; (conv => whnf)) | (apply loads_at; (conv => lhs; whnf); (with_reducible assumption); rfl; (conv => whnf)) | (refine ⟨⟨by omega, by omega⟩, ?_⟩; (conv => whnf))))
    exact ⟨rfl, rfl⟩
  have h : decide (p ≥ 0) = true := h
  rw [h, Bool.true_and]
  ((conv => whnf); repeat (first | (apply load_at; (conv => lhs; whnf); (with_reducible assumption); rfl; (conv => whnf)) | (apply load_at; (conv => lhs; rw [add_plain, add_plain]); (with_reducible assumption); rfl; (conv => whnf)) | (apply loads_at; (conv => lhs; whnf); (with_reducible assumption); rfl; (conv => whnf)) | (refine ⟨⟨by omega, by omega⟩, ?_⟩; (conv => whnf))))
  refine cond_split (fun h => ?_) (fun h => ?_)
  rotate_left
  · have h : decide (p < 4294967296) = false := h
    rw [h]
    ((conv => whnf); repeat (first | (apply load_at; (conv => lhs; whnf); (with_reducible assumption); rfl; (conv => whnf)) | (apply load_at; (conv => lhs; rw [add_plain, add_plain]); (with_reducible assumption); rfl; (conv => whnf)) | (apply loads_at; (conv => lhs; whnf); (with_reducible assumption); rfl; (conv => whnf)) | (refine ⟨⟨by omega, by omega⟩, ?_⟩; (conv => whnf))))
    exact ⟨rfl, rfl⟩
  have h : decide (p < 4294967296) = true := h
  rw [h, Bool.true_and]
  ((conv => whnf); repeat (first | (apply load_at; (conv => lhs; whnf); (with_reducible assumption); rfl; (conv => whnf)) | (apply load_at; (conv => lhs; rw [add_plain, add_plain]); (with_reducible assumption); rfl; (conv => whnf)) | (apply loads_at; (conv => lhs; whnf); (with_reducible assumption); rfl; (conv => whnf)) | (refine ⟨⟨by omega, by omega⟩, ?_⟩; (conv => whnf))))
  refine cond_split (fun h => ?_) (fun h => ?_)
  rotate_left
  · have h : decide (q ≥ 0) = false := h
    rw [h]
    ((conv => whnf); repeat (first | (apply load_at; (conv => lhs; whnf); (with_reducible assumption); rfl; (conv => whnf)) | (apply load_at; (conv => lhs; rw [add_plain, add_plain]); (with_reducible assumption); rfl; (conv => whnf)) | (apply loads_at; (conv => lhs; whnf); (with_reducible assumption); rfl; (conv => whnf)) | (refine ⟨⟨by omega, by omega⟩, ?_⟩; (conv => whnf))))
    exact ⟨rfl, rfl⟩
  have h : decide (q ≥ 0) = true := h
  rw [h, Bool.true_and]
  ((conv => whnf); repeat (first | (apply load_at; (conv => lhs; whnf); (with_reducible assumption); rfl; (conv => whnf)) | (apply load_at; (conv => lhs; rw [add_plain, add_plain]); (with_reducible assumption); rfl; (conv => whnf)) | (apply loads_at; (conv => lhs; whnf); (with_reducible assumption); rfl; (conv => whnf)) | (refine ⟨⟨by omega, by omega⟩, ?_⟩; (conv => whnf))))
  exact ⟨rfl, rfl⟩
/-- The sum ahead is that of what stands behind. -/
theorem seal_iff {b : List UInt8} (h : b.length = 256) : (sealB (b.drop 4) == b) = (getN b 0 4 == ((sumB (b.drop 4) : Nat) : Int)) := by
  have hlt := sumB_lt (b.drop 4)
  have hb : b = b.take 4 ++ b.drop 4 := (List.take_append_drop 4 b).symm
  have hg : getN b 0 4 = getV (b.take 4) := by rw [getN_at (by omega), List.drop_zero]
  have h4 : (b.take 4).length = 4 := by rw [List.length_take]; omega
  rw [hg, Bool.eq_iff_iff, beq_iff_eq, beq_iff_eq]
  constructor
  · intro e
    have : b.take 4 = beM 4 ((sumB (b.drop 4) : Nat) : Int) := by
      have e2 := congrArg (List.take 4) e
      unfold sealB at e2
      rw [List.take_left' (beM_len 4 _)] at e2
      exact e2.symm
    rw [this, getV_back (.inr (.inr (.inl rfl))) (inSum _) (by omega) (by omega)]
  · intro e
    unfold sealB
    rw [← e, beM_getV _ (by decide) h4, List.take_append_drop]
theorem rpack (p q : Int) (d : List UInt8) (A : Option Addr) (c : Nat) (F : Heap) (hr : RowAt F A (bytesOf d)) (hl : d.length ≤ 900000) :
    FnK Tryd.prog 86 #[.int .i64 p, .int .i64 q, .slice A d.length c] F (fun v F' => ∃ u, v = .tuple #[u, .int .i64 (packE p q d)] ∧ NewRow F F' u (packB p q d) ∧ Ext F F') := by
  have h0 := rsecRight p q F
  have h1 := fun G h => rputG 4 (.inr (.inr (.inl rfl))) [] none 0 p G h (by decide)
  have e1 : (putM 4 [] p).length ≤ 4 := Nat.le_trans (putM_len 4 [] p) (by decide)
  have h2 := fun A c G h => rputG 8 (.inr (.inr (.inr rfl))) (putM 4 [] p) A c q G h (by omega)
  have e2 : (putM 8 (putM 4 [] p) q).length ≤ 12 := Nat.le_trans (putM_len 8 _ q) (by omega)
  have h3 := fun A c G h hl => rcrcSum (headB p q d) A c G h hl
  have h4 := fun G h => rputG 4 (.inr (.inr (.inl rfl))) [] none 0 (sumB (headB p q d) : Nat) G h (by decide)
  rw [putSum] at h4
  have hlt := sumB_lt (headB p q d)
  have hm := beM_len 4 (sumB (headB p q d) : Nat)
  have hP : packY p q d = (secR p q && (d.length == 240)) := rfl
  have hB : packB p q d = if packY p q d = true then beM 4 (sumB (headB p q d) : Nat) ++ headB p q d else [] := rfl
  have hE : packE p q d = if packY p q d = true then 0 else 1 := rfl
  have hH : headB p q d = putM 8 (putM 4 [] p) q ++ d := rfl
  generalize sumB (headB p q d) = sn at h3 h4 hB hlt hm
  generalize beM 4 (sn : Int) = sb at h4 hB hm
  generalize headB p q d = hb at h3 hH hB
  generalize putM 8 (putM 4 [] p) q = m2 at h2 e2 hH
  generalize putM 4 [] p = m1 at h1 h2 e1
  generalize packB p q d = pb at hB
  generalize packE p q d = pe at hE
  rw [hP] at hB hE
  generalize secR p q = z at h0 hB hE
  subst hH
  (refine fn_walk tab_ok Tryd.func86 rfl rfl rfl rfl ?_; (conv => whnf))
  refine call_of h0 ?_
  rintro v _ ⟨rfl, rfl⟩
  cases z with
  | false =>
    obtain rfl : pb = [] := hB
    obtain rfl : pe = 1 := hE
    ((conv => whnf); repeat (first | (apply load_at; (conv => lhs; whnf); (with_reducible assumption); rfl; (conv => whnf)) | (apply load_at; (conv => lhs; rw [add_plain, add_plain]); (with_reducible assumption); rfl; (conv => whnf)) | (apply loads_at; (conv => lhs; whnf); (with_reducible assumption); rfl; (conv => whnf)) | (refine ⟨⟨by omega, by omega⟩, ?_⟩; (conv => whnf))))
    exact ⟨_, rfl, newRow_nil _, Ext.refl _⟩
  | true =>
    rw [Bool.true_and] at hB hE
    ((conv => whnf); repeat (first | (apply load_at; (conv => lhs; whnf); (with_reducible assumption); rfl; (conv => whnf)) | (apply load_at; (conv => lhs; rw [add_plain, add_plain]); (with_reducible assumption); rfl; (conv => whnf)) | (apply loads_at; (conv => lhs; whnf); (with_reducible assumption); rfl; (conv => whnf)) | (refine ⟨⟨by omega, by omega⟩, ?_⟩; (conv => whnf))))
    refine cond_split (fun h => ?_) (fun h => ?_)
    · have hd : ¬ d.length = 240 := by
        have h : ((d.length : Int) != 240) = true := h
        simp only [bne_iff_ne, ne_eq] at h
        omega
      rw [if_neg (by simpa using hd)] at hB hE
      subst hB hE
      ((conv => whnf); repeat (first | (apply load_at; (conv => lhs; whnf); (with_reducible assumption); rfl; (conv => whnf)) | (apply load_at; (conv => lhs; rw [add_plain, add_plain]); (with_reducible assumption); rfl; (conv => whnf)) | (apply loads_at; (conv => lhs; whnf); (with_reducible assumption); rfl; (conv => whnf)) | (refine ⟨⟨by omega, by omega⟩, ?_⟩; (conv => whnf))))
      exact ⟨_, rfl, newRow_nil _, Ext.refl _⟩
    · have hd : d.length = 240 := by
        have h : ((d.length : Int) != 240) = false := h
        simp only [bne_eq_false_iff_eq] at h
        omega
      rw [if_pos (by simpa using hd)] at hB hE
      subst hB hE
      ((conv => whnf); repeat (first | (apply load_at; (conv => lhs; whnf); (with_reducible assumption); rfl; (conv => whnf)) | (apply load_at; (conv => lhs; rw [add_plain, add_plain]); (with_reducible assumption); rfl; (conv => whnf)) | (apply loads_at; (conv => lhs; whnf); (with_reducible assumption); rfl; (conv => whnf)) | (refine ⟨⟨by omega, by omega⟩, ?_⟩; (conv => whnf))))
      refine call_of (h1 _ (RowAt.nil _ _)) ?_
      rintro v F1 hM1
      obtain ⟨A1, c1, rfl, _, hr1⟩ := hM1.own.row
      ((conv => whnf); repeat (first | (apply load_at; (conv => lhs; whnf); (with_reducible assumption); rfl; (conv => whnf)) | (apply load_at; (conv => lhs; rw [add_plain, add_plain]); (with_reducible assumption); rfl; (conv => whnf)) | (apply loads_at; (conv => lhs; whnf); (with_reducible assumption); rfl; (conv => whnf)) | (refine ⟨⟨by omega, by omega⟩, ?_⟩; (conv => whnf))))
      refine call_of (h2 _ _ F1 hr1) ?_
      rintro v F2 hM2
      have hE2 := hM1.ext.trans hM2.ext
      ((conv => whnf); repeat (first | (apply load_at; (conv => lhs; whnf); (with_reducible assumption); rfl; (conv => whnf)) | (apply load_at; (conv => lhs; rw [add_plain, add_plain]); (with_reducible assumption); rfl; (conv => whnf)) | (apply loads_at; (conv => lhs; whnf); (with_reducible assumption); rfl; (conv => whnf)) | (refine ⟨⟨by omega, by omega⟩, ?_⟩; (conv => whnf))))
      refine append_mine tab_ok rfl rfl rfl rfl rfl ⟨_, rfl, fun k h => by cases h⟩ ⟨_, rfl, rfl⟩ (by decide) hM2 (m := d.length) (ys := bytesOf d) (y := .slice A d.length c) ⟨by rw [bytes_len]; exact (Nat.mul_one _).symm, .inl ⟨_, _, rfl, hr.mono hE2⟩⟩ (hone_bytes _) (by show 2 * (m2.length + d.length) * 1 ≤ _; omega) fun S3 F3 hM3 hk3 => ?_
      rw [← bytes_app, ← List.length_append] at hM3
      have hE3 := hM1.ext.trans hM3.ext
      obtain ⟨A3, c3, rfl, _, hr3⟩ := hM3.own.row
      have hl3 : (m2 ++ d).length ≤ 1000 := by rw [List.length_append]; omega
      generalize m2 ++ d = hb at h3 hM3 hr3 hl3 ⊢
      ((conv => whnf); repeat (first | (apply load_at; (conv => lhs; whnf); (with_reducible assumption); rfl; (conv => whnf)) | (apply load_at; (conv => lhs; rw [add_plain, add_plain]); (with_reducible assumption); rfl; (conv => whnf)) | (apply loads_at; (conv => lhs; whnf); (with_reducible assumption); rfl; (conv => whnf)) | (refine ⟨⟨by omega, by omega⟩, ?_⟩; (conv => whnf))))
      refine call_of (h3 A3 c3 F3 hr3 (by omega)) ?_
      rintro v _ ⟨rfl, rfl⟩
      ((conv => whnf); repeat (first | (apply load_at; (conv => lhs; whnf); (with_reducible assumption); rfl; (conv => whnf)) | (apply load_at; (conv => lhs; rw [add_plain, add_plain]); (with_reducible assumption); rfl; (conv => whnf)) | (apply loads_at; (conv => lhs; whnf); (with_reducible assumption); rfl; (conv => whnf)) | (refine ⟨⟨by omega, by omega⟩, ?_⟩; (conv => whnf))))
      rw [wrap_eq (show -9223372036854775808 ≤ ((sn : Nat) : Int) by omega) (by omega)]
      refine call_of (h4 _ (RowAt.nil _ _)) ?_
      rintro v F4 hM4
      ((conv => whnf); repeat (first | (apply load_at; (conv => lhs; whnf); (with_reducible assumption); rfl; (conv => whnf)) | (apply load_at; (conv => lhs; rw [add_plain, add_plain]); (with_reducible assumption); rfl; (conv => whnf)) | (apply loads_at; (conv => lhs; whnf); (with_reducible assumption); rfl; (conv => whnf)) | (refine ⟨⟨by omega, by omega⟩, ?_⟩; (conv => whnf))))
      refine append_mine tab_ok rfl rfl rfl rfl rfl ⟨_, rfl, fun k h => by cases h⟩ ⟨_, rfl, rfl⟩ (by decide) hM4 (m := hb.length) (ys := bytesOf hb) (y := .slice A3 hb.length c3) ⟨by rw [bytes_len]; exact (Nat.mul_one _).symm, .inl ⟨_, _, rfl, hr3.mono hM4.ext⟩⟩ (hone_bytes _) (by show 2 * (sb.length + hb.length) * 1 ≤ _; omega) fun S5 F5 hM5 hk5 => ?_
      rw [← bytes_app, ← List.length_append] at hM5
      obtain ⟨A5, c5, rfl, g1, g2⟩ := hM5.own.row
      ((conv => whnf); repeat (first | (apply load_at; (conv => lhs; whnf); (with_reducible assumption); rfl; (conv => whnf)) | (apply load_at; (conv => lhs; rw [add_plain, add_plain]); (with_reducible assumption); rfl; (conv => whnf)) | (apply loads_at; (conv => lhs; whnf); (with_reducible assumption); rfl; (conv => whnf)) | (refine ⟨⟨by omega, by omega⟩, ?_⟩; (conv => whnf))))
      refine ⟨_, rfl, ⟨A5, c5, rfl, g1, g2, fun a ha => ?_⟩, hE3.trans hM5.ext⟩
      subst ha
      exact hE3.none (hM5.fresh a.block rfl)
theorem runpack (b : List UInt8) (A : Option Addr) (c : Nat) (F : Heap) (hr : RowAt F A (bytesOf b)) (hl : b.length ≤ 900000) (hc : b.length ≤ c) :
    FnK Tryd.prog 79 #[.slice A b.length c] F (fun v F' => ∃ u, v = .tuple #[.int .i64 (unP b), .int .i64 (unQ b), u, .int .i64 (unE b)] ∧ NewRow F F' u (unD b) ∧ Ext F F') := by
  have hOk : okU b = ((b.length == 256) && ((sealB (b.drop 4) == b) && secR (getN b 4 4) (getN b 8 8))) := rfl
  unfold unP unQ unD unE
  by_cases hb : b.length = 256
  · have hdl : (b.drop 4).length = 252 := by rw [List.length_drop, hb]
    have hdl2 : (b.drop 16).length = 240 := by rw [List.length_drop, hb]
    have k1 : b.length - 4 = (b.drop 4).length := by rw [List.length_drop]
    have k2 : b.length - 16 = (b.drop 16).length := by rw [List.length_drop]
    have h1 := fun A c F h => rcrcSum (b.drop 4) A c F h (by omega)
    have hlt := sumB_lt (b.drop 4)
    have h2 := fun F h => rgetG 4 (.inr (.inr (.inl rfl))) b A c 0 F h (by omega) hc (by decide)
    have h3 := fun F h => rgetG 4 (.inr (.inr (.inl rfl))) b A c 4 F h (by omega) hc (by decide)
    have h4 := fun F h => rgetG 8 (.inr (.inr (.inr rfl))) b A c 8 F h (by omega) hc (by decide)
    have h5 := fun F => rsecRight (getN b 4 4) (getN b 8 8) F
    have r1 : ∀ F, RowAt F A (bytesOf b) → RowAt F (if c = 4 then A else A.map (·.add (4 * 1))) (bytesOf (b.drop 4)) := fun F h => by
      have := row_cut3 4 252 c 4 h rfl (by omega) (by omega)
      rwa [List.take_of_length_le (by omega)] at this
    have r2 : ∀ F, RowAt F A (bytesOf b) → RowAt F (if c = 16 then A else A.map (·.add (16 * 1))) (bytesOf (b.drop 16)) := fun F h => by
      have := row_cut3 16 240 c 16 h rfl (by omega) (by omega)
      rwa [List.take_of_length_le (by omega)] at this
    rw [seal_iff hb] at hOk
    generalize getN b 0 4 = s0 at h2 hOk
    generalize getN b 4 4 = p at h3 h5 hOk ⊢
    generalize getN b 8 8 = q at h4 h5 hOk ⊢
    generalize getE b 0 4 = e2 at h2
    generalize getE b 4 4 = e3 at h3
    generalize getE b 8 8 = e4 at h4
    generalize secR p q = z at h5 hOk
    generalize sumB (b.drop 4) = sn at h1 hOk hlt
    generalize b.drop 4 = b4 at h1 r1 k1 hdl
    generalize b.drop 16 = b16 at r2 k2 hdl2 ⊢
    rw [show (b.length == 256) = true by simpa using hb, Bool.true_and] at hOk
    rw [hOk]
    clear hOk
    (refine fn_walk tab_ok Tryd.func79 rfl rfl rfl rfl ?_; (conv => whnf))
    refine cond_split (fun h => ?_) (fun h => ?_)
    · exact absurd hb (by
        have h : ((b.length : Int) != 256) = true := h
        simp only [bne_iff_ne, ne_eq] at h
        omega)
    clear h
    ((conv => whnf); repeat (first | (apply load_at; (conv => lhs; whnf); (with_reducible assumption); rfl; (conv => whnf)) | (apply load_at; (conv => lhs; rw [add_plain, add_plain]); (with_reducible assumption); rfl; (conv => whnf)) | (apply loads_at; (conv => lhs; whnf); (with_reducible assumption); rfl; (conv => whnf)) | (refine ⟨⟨by omega, by omega⟩, ?_⟩; (conv => whnf))))
    refine call_of (h2 _ hr) ?_
    rintro v _ ⟨rfl, rfl⟩
    ((conv => whnf); repeat (first | (apply load_at; (conv => lhs; whnf); (with_reducible assumption); rfl; (conv => whnf)) | (apply load_at; (conv => lhs; rw [add_plain, add_plain]); (with_reducible assumption); rfl; (conv => whnf)) | (apply loads_at; (conv => lhs; whnf); (with_reducible assumption); rfl; (conv => whnf)) | (refine ⟨⟨by omega, by omega⟩, ?_⟩; (conv => whnf))))
    refine call_of (h3 _ hr) ?_
    rintro v _ ⟨rfl, rfl⟩
    ((conv => whnf); repeat (first | (apply load_at; (conv => lhs; whnf); (with_reducible assumption); rfl; (conv => whnf)) | (apply load_at; (conv => lhs; rw [add_plain, add_plain]); (with_reducible assumption); rfl; (conv => whnf)) | (apply loads_at; (conv => lhs; whnf); (with_reducible assumption); rfl; (conv => whnf)) | (refine ⟨⟨by omega, by omega⟩, ?_⟩; (conv => whnf))))
    refine call_of (h4 _ hr) ?_
    rintro v _ ⟨rfl, rfl⟩
    refine short [0, 6, 8, 27] [.slice A b.length c, .int .i64 s0, .int .i64 p, .tuple #[.int .i64 q, .int .i64 e4]] rfl fun ρ => ?_
    ((conv => whnf); repeat (first | (apply load_at; (conv => lhs; whnf); (with_reducible assumption); rfl; (conv => whnf)) | (apply load_at; (conv => lhs; rw [add_plain, add_plain]); (with_reducible assumption); rfl; (conv => whnf)) | (apply loads_at; (conv => lhs; whnf); (with_reducible assumption); rfl; (conv => whnf)) | (refine ⟨⟨by omega, by omega⟩, ?_⟩; (conv => whnf))))
    refine call_args (xs' := #[.slice (if c = 4 then A else A.map (·.add (4 * 1))) b4.length (c - 4)]) ?hq2 (call_of (h1 _ _ _ (r1 _ hr)) ?_)
    case hq2 => exact congrArg (fun x => #[x]) (slice_eq rfl k1 rfl)
    rintro v _ ⟨rfl, rfl⟩
    ((conv => whnf); repeat (first | (apply load_at; (conv => lhs; whnf); (with_reducible assumption); rfl; (conv => whnf)) | (apply load_at; (conv => lhs; rw [add_plain, add_plain]); (with_reducible assumption); rfl; (conv => whnf)) | (apply loads_at; (conv => lhs; whnf); (with_reducible assumption); rfl; (conv => whnf)) | (refine ⟨⟨by omega, by omega⟩, ?_⟩; (conv => whnf))))
    rw [wrap_eq (show -9223372036854775808 ≤ ((sn : Nat) : Int) by omega) (by omega)]
    refine cond_split (fun h => ?_) (fun h => ?_)
    rotate_left
    · have hy : (s0 == (sn : Int)) = false := by
        have h : (!(s0 != (sn : Int))) = false := h
        simpa using h
      rw [hy]
      ((conv => whnf); repeat (first | (apply load_at; (conv => lhs; whnf); (with_reducible assumption); rfl; (conv => whnf)) | (apply load_at; (conv => lhs; rw [add_plain, add_plain]); (with_reducible assumption); rfl; (conv => whnf)) | (apply loads_at; (conv => lhs; whnf); (with_reducible assumption); rfl; (conv => whnf)) | (refine ⟨⟨by omega, by omega⟩, ?_⟩; (conv => whnf))))
      exact ⟨_, rfl, newRow_nil' _ _, Ext.refl _⟩
    have hy : (s0 == (sn : Int)) = true := by
      have h : (!(s0 != (sn : Int))) = true := h
      simpa using h
    rw [hy, Bool.true_and]
    clear h
    ((conv => whnf); repeat (first | (apply load_at; (conv => lhs; whnf); (with_reducible assumption); rfl; (conv => whnf)) | (apply load_at; (conv => lhs; rw [add_plain, add_plain]); (with_reducible assumption); rfl; (conv => whnf)) | (apply loads_at; (conv => lhs; whnf); (with_reducible assumption); rfl; (conv => whnf)) | (refine ⟨⟨by omega, by omega⟩, ?_⟩; (conv => whnf))))
    refine call_of (h5 _) ?_
    rintro v _ ⟨rfl, rfl⟩
    have hne : (s0 != (sn : Int)) = false := by rw [bne, hy]; decide
    refine short [0, 8, 10, 36, 39] [.slice A b.length c, .int .i64 p, .int .i64 q, .bool false, .bool z] (by rw [← hne]; rfl) fun ρ => ?_
    cases z with
    | false =>
      ((conv => whnf); repeat (first | (apply load_at; (conv => lhs; whnf); (with_reducible assumption); rfl; (conv => whnf)) | (apply load_at; (conv => lhs; rw [add_plain, add_plain]); (with_reducible assumption); rfl; (conv => whnf)) | (apply loads_at; (conv => lhs; whnf); (with_reducible assumption); rfl; (conv => whnf)) | (refine ⟨⟨by omega, by omega⟩, ?_⟩; (conv => whnf))))
      exact ⟨_, rfl, newRow_nil' _ _, Ext.refl _⟩
    | true =>
    ((conv => whnf); repeat (first | (apply load_at; (conv => lhs; whnf); (with_reducible assumption); rfl; (conv => whnf)) | (apply load_at; (conv => lhs; rw [add_plain, add_plain]); (with_reducible assumption); rfl; (conv => whnf)) | (apply loads_at; (conv => lhs; whnf); (with_reducible assumption); rfl; (conv => whnf)) | (refine ⟨⟨by omega, by omega⟩, ?_⟩; (conv => whnf))))
    refine append_mine tab_ok rfl rfl ?hq rfl rfl ⟨_, rfl, fun k h => by cases h⟩ ⟨_, rfl, rfl⟩ (by decide) (Mine.nil _ _ _ _ (Ext.refl _)) (m := b16.length) (ys := bytesOf b16) (y := .slice (if c = 16 then A else A.map (·.add (16 * 1))) b16.length (c - 16)) ⟨by rw [bytes_len]; exact (Nat.mul_one _).symm, .inl ⟨_, _, rfl, r2 _ hr⟩⟩ (hone_bytes _) (by show 2 * (0 + b16.length) * 1 ≤ _; omega) fun S2 F2 hM2 hk2 => ?_
    case hq =>
      conv => lhs; whnf
      exact slice_eq rfl k2 rfl
    rw [List.nil_append, Nat.zero_add] at hM2
    obtain ⟨A3, c3, rfl, g1, g2⟩ := hM2.own.row
    ((conv => whnf); repeat (first | (apply load_at; (conv => lhs; whnf); (with_reducible assumption); rfl; (conv => whnf)) | (apply load_at; (conv => lhs; rw [add_plain, add_plain]); (with_reducible assumption); rfl; (conv => whnf)) | (apply loads_at; (conv => lhs; whnf); (with_reducible assumption); rfl; (conv => whnf)) | (refine ⟨⟨by omega, by omega⟩, ?_⟩; (conv => whnf))))
    exact ⟨_, rfl, ⟨A3, c3, rfl, g1, g2, fun a ha => by subst ha; exact hM2.fresh a.block rfl⟩, hM2.ext⟩
  · rw [show (b.length == 256) = false by simpa using hb, Bool.false_and] at hOk
    rw [hOk]
    clear hOk
    show FnK _ _ _ F (fun v F' => ∃ u, v = .tuple #[.int .i64 0, .int .i64 0, u, .int .i64 4] ∧ NewRow F F' u [] ∧ Ext F F')
    (refine fn_walk tab_ok Tryd.func79 rfl rfl rfl rfl ?_; (conv => whnf))
    refine cond_split (fun h => ?_) (fun h => ?_)
    rotate_left
    · exact absurd (by
        have h : ((b.length : Int) != 256) = false := h
        simp only [bne_eq_false_iff_eq] at h
        omega) hb
    clear h
    ((conv => whnf); repeat (first | (apply load_at; (conv => lhs; whnf); (with_reducible assumption); rfl; (conv => whnf)) | (apply load_at; (conv => lhs; rw [add_plain, add_plain]); (with_reducible assumption); rfl; (conv => whnf)) | (apply loads_at; (conv => lhs; whnf); (with_reducible assumption); rfl; (conv => whnf)) | (refine ⟨⟨by omega, by omega⟩, ?_⟩; (conv => whnf))))
    exact ⟨_, rfl, newRow_nil' _ _, Ext.refl _⟩
end Go.Proofs.YtmpiggcooboenaaDoor.Al
/- Where pages stand: the contracts of layout, and of its reference. -/
namespace Go.Proofs.YtmpiggcooboenaaDoor.Al
open Go Go.Al Go.Proofs Go.RowKit
set_option maxHeartbeats 8000000
set_option maxRecDepth 100000
set_option linter.unusedVariables false
set_option linter.unusedSimpArgs false
def pagesN (n : Int) : Int := if n < 3 ∨ n > 65536 then 0 else (n - 1) / 2
def isPg (n i : Int) : Bool := decide (0 ≤ i ∧ i < pagesN n)
def slotI (n i : Int) : Int := if 0 ≤ i ∧ i < pagesN n then 1 + i else 0
def homeI (n i : Int) : Int := if 0 ≤ i ∧ i < pagesN n then 1 + pagesN n + i else 0
theorem pagesN_le (n : Int) : 0 ≤ pagesN n ∧ pagesN n ≤ 32768 ∧ (0 < pagesN n → 2 * pagesN n + 1 ≤ n) := by
  unfold pagesN
  split <;> omega
theorem two_ints (a b : Int) : ∀ v ∈ [Value.int .i64 a, .int .i64 b], v.oneCell' = true := by simp [Value.oneCell']
theorem pages (n : Int) (F : Heap) : FnK Tryd.prog 68 #[.int .i64 n] F (fun v F' => v = .int .i64 (pagesN n) ∧ F' = F) := by
  have hP : pagesN n = if n < 3 ∨ n > 65536 then 0 else (n - 1) / 2 := rfl
  generalize pagesN n = r at hP
  (refine fn_walk tab_ok Tryd.func68 rfl rfl rfl rfl ?_; (conv => whnf))
  refine cond_split (fun h => ?_) (fun h => ?_)
  · have h : (!decide (n < 3)) = true := h
    have h3 : ¬ n < 3 := by simpa using h
    ((conv => whnf); repeat (first | (apply load_at; (conv => lhs; whnf); (with_reducible assumption); rfl; (conv => whnf)) | (apply load_at; (conv => lhs; rw [add_plain, add_plain]); (with_reducible assumption); rfl; (conv => whnf)) | (apply loads_at; (conv => lhs; whnf); (with_reducible assumption); rfl; (conv => whnf)) | (refine ⟨⟨by omega, by omega⟩, ?_⟩; (conv => whnf))))
    refine cond_split (fun h => ?_) (fun h => ?_)
    · have h4 : n > 65536 := by
        have h : decide (n > 65536) = true := h
        exact of_decide_eq_true h
      rw [if_pos (.inr h4)] at hP
      ((conv => whnf); repeat (first | (apply load_at; (conv => lhs; whnf); (with_reducible assumption); rfl; (conv => whnf)) | (apply load_at; (conv => lhs; rw [add_plain, add_plain]); (with_reducible assumption); rfl; (conv => whnf)) | (apply loads_at; (conv => lhs; whnf); (with_reducible assumption); rfl; (conv => whnf)) | (refine ⟨⟨by omega, by omega⟩, ?_⟩; (conv => whnf))))
      exact ⟨congrArg (Value.int .i64) hP.symm, rfl⟩
    · have h4 : ¬ n > 65536 := by
        have h : decide (n > 65536) = false := h
        exact of_decide_eq_false h
      rw [if_neg (by omega)] at hP
      ((conv => whnf); repeat (first | (apply load_at; (conv => lhs; whnf); (with_reducible assumption); rfl; (conv => whnf)) | (apply load_at; (conv => lhs; rw [add_plain, add_plain]); (with_reducible assumption); rfl; (conv => whnf)) | (apply loads_at; (conv => lhs; whnf); (with_reducible assumption); rfl; (conv => whnf)) | (refine ⟨⟨by omega, by omega⟩, ?_⟩; (conv => whnf))))
      refine ⟨by decide, ?_⟩
      ((conv => whnf); repeat (first | (apply load_at; (conv => lhs; whnf); (with_reducible assumption); rfl; (conv => whnf)) | (apply load_at; (conv => lhs; rw [add_plain, add_plain]); (with_reducible assumption); rfl; (conv => whnf)) | (apply loads_at; (conv => lhs; whnf); (with_reducible assumption); rfl; (conv => whnf)) | (refine ⟨⟨by omega, by omega⟩, ?_⟩; (conv => whnf))))
      refine ⟨congrArg (Value.int .i64) ?_, rfl⟩
      rw [wrap_eq (show -9223372036854775808 ≤ n - 1 by omega) (by omega), Int.tdiv_eq_ediv_of_nonneg (by omega), wrap_eq (by omega) (by omega), hP]
  · have h : (!decide (n < 3)) = false := h
    have h3 : n < 3 := by simpa using h
    rw [if_pos (.inl h3)] at hP
    ((conv => whnf); repeat (first | (apply load_at; (conv => lhs; whnf); (with_reducible assumption); rfl; (conv => whnf)) | (apply load_at; (conv => lhs; rw [add_plain, add_plain]); (with_reducible assumption); rfl; (conv => whnf)) | (apply loads_at; (conv => lhs; whnf); (with_reducible assumption); rfl; (conv => whnf)) | (refine ⟨⟨by omega, by omega⟩, ?_⟩; (conv => whnf))))
    exact ⟨congrArg (Value.int .i64) hP.symm, rfl⟩
theorem rpages (n : Int) (F : Heap) : FnK Tryd.prog 27 #[.int .i64 n] F (fun v F' => v = .int .i64 (pagesN n) ∧ F' = F) := by
  have hP : pagesN n = if n < 3 ∨ n > 65536 then 0 else (n - 1) / 2 := rfl
  generalize pagesN n = r at hP
  (refine fn_walk tab_ok Tryd.func27 rfl rfl rfl rfl ?_; (conv => whnf))
  refine cond_split (fun h => ?_) (fun h => ?_)
  · have h : (!decide (n < 3)) = true := h
    have h3 : ¬ n < 3 := by simpa using h
    ((conv => whnf); repeat (first | (apply load_at; (conv => lhs; whnf); (with_reducible assumption); rfl; (conv => whnf)) | (apply load_at; (conv => lhs; rw [add_plain, add_plain]); (with_reducible assumption); rfl; (conv => whnf)) | (apply loads_at; (conv => lhs; whnf); (with_reducible assumption); rfl; (conv => whnf)) | (refine ⟨⟨by omega, by omega⟩, ?_⟩; (conv => whnf))))
    refine cond_split (fun h => ?_) (fun h => ?_)
    · have h4 : n > 65536 := by
        have h : decide (n > 65536) = true := h
        exact of_decide_eq_true h
      rw [if_pos (.inr h4)] at hP
      ((conv => whnf); repeat (first | (apply load_at; (conv => lhs; whnf); (with_reducible assumption); rfl; (conv => whnf)) | (apply load_at; (conv => lhs; rw [add_plain, add_plain]); (with_reducible assumption); rfl; (conv => whnf)) | (apply loads_at; (conv => lhs; whnf); (with_reducible assumption); rfl; (conv => whnf)) | (refine ⟨⟨by omega, by omega⟩, ?_⟩; (conv => whnf))))
      exact ⟨congrArg (Value.int .i64) hP.symm, rfl⟩
    · have h4 : ¬ n > 65536 := by
        have h : decide (n > 65536) = false := h
        exact of_decide_eq_false h
      rw [if_neg (by omega)] at hP
      ((conv => whnf); repeat (first | (apply load_at; (conv => lhs; whnf); (with_reducible assumption); rfl; (conv => whnf)) | (apply load_at; (conv => lhs; rw [add_plain, add_plain]); (with_reducible assumption); rfl; (conv => whnf)) | (apply loads_at; (conv => lhs; whnf); (with_reducible assumption); rfl; (conv => whnf)) | (refine ⟨⟨by omega, by omega⟩, ?_⟩; (conv => whnf))))
      refine ⟨by decide, ?_⟩
      ((conv => whnf); repeat (first | (apply load_at; (conv => lhs; whnf); (with_reducible assumption); rfl; (conv => whnf)) | (apply load_at; (conv => lhs; rw [add_plain, add_plain]); (with_reducible assumption); rfl; (conv => whnf)) | (apply loads_at; (conv => lhs; whnf); (with_reducible assumption); rfl; (conv => whnf)) | (refine ⟨⟨by omega, by omega⟩, ?_⟩; (conv => whnf))))
      refine ⟨congrArg (Value.int .i64) ?_, rfl⟩
      rw [wrap_eq (show -9223372036854775808 ≤ n - 1 by omega) (by omega), Int.tdiv_eq_ediv_of_nonneg (by omega), wrap_eq (by omega) (by omega), hP]
  · have h : (!decide (n < 3)) = false := h
    have h3 : n < 3 := by simpa using h
    rw [if_pos (.inl h3)] at hP
    ((conv => whnf); repeat (first | (apply load_at; (conv => lhs; whnf); (with_reducible assumption); rfl; (conv => whnf)) | (apply load_at; (conv => lhs; rw [add_plain, add_plain]); (with_reducible assumption); rfl; (conv => whnf)) | (apply loads_at; (conv => lhs; whnf); (with_reducible assumption); rfl; (conv => whnf)) | (refine ⟨⟨by omega, by omega⟩, ?_⟩; (conv => whnf))))
    exact ⟨congrArg (Value.int .i64) hP.symm, rfl⟩
theorem rslot (n i : Int) (F : Heap) : FnK Tryd.prog 87 #[.int .i64 n, .int .i64 i] F (fun v F' => v = .tuple #[.int .i64 (slotI n i), .bool (isPg n i)] ∧ F' = F) := by
  have h1 := fun F => rpages n F
  have hO : isPg n i = decide (0 ≤ i ∧ i < pagesN n) := rfl
  have hS : slotI n i = if 0 ≤ i ∧ i < pagesN n then 1 + i else 0 := rfl
  have hle := pagesN_le n
  generalize pagesN n = r at h1 hO hS hle
  generalize isPg n i = z at hO
  generalize slotI n i = s at hS
  (refine fn_walk tab_ok Tryd.func87 rfl rfl rfl rfl ?_; (conv => whnf))
  refine cond_split (fun h => ?_) (fun h => ?_)
  · have h : (!decide (i < 0)) = true := h
    have h3 : ¬ i < 0 := by simpa using h
    ((conv => whnf); repeat (first | (apply load_at; (conv => lhs; whnf); (with_reducible assumption); rfl; (conv => whnf)) | (apply load_at; (conv => lhs; rw [add_plain, add_plain]); (with_reducible assumption); rfl; (conv => whnf)) | (apply loads_at; (conv => lhs; whnf); (with_reducible assumption); rfl; (conv => whnf)) | (refine ⟨⟨by omega, by omega⟩, ?_⟩; (conv => whnf))))
    refine call_of (h1 F) ?_
    rintro v _ ⟨rfl, rfl⟩
    ((conv => whnf); repeat (first | (apply load_at; (conv => lhs; whnf); (with_reducible assumption); rfl; (conv => whnf)) | (apply load_at; (conv => lhs; rw [add_plain, add_plain]); (with_reducible assumption); rfl; (conv => whnf)) | (apply loads_at; (conv => lhs; whnf); (with_reducible assumption); rfl; (conv => whnf)) | (refine ⟨⟨by omega, by omega⟩, ?_⟩; (conv => whnf))))
    refine cond_split (fun h => ?_) (fun h => ?_)
    · have h4 : i ≥ r := of_decide_eq_true (show decide (i ≥ r) = true from h)
      rw [if_neg (by omega)] at hS
      rw [decide_eq_false (by omega)] at hO
      subst hS hO
      ((conv => whnf); repeat (first | (apply load_at; (conv => lhs; whnf); (with_reducible assumption); rfl; (conv => whnf)) | (apply load_at; (conv => lhs; rw [add_plain, add_plain]); (with_reducible assumption); rfl; (conv => whnf)) | (apply loads_at; (conv => lhs; whnf); (with_reducible assumption); rfl; (conv => whnf)) | (refine ⟨⟨by omega, by omega⟩, ?_⟩; (conv => whnf))))
      exact ⟨rfl, rfl⟩
    · have h4 : ¬ i ≥ r := of_decide_eq_false (show decide (i ≥ r) = false from h)
      rw [if_pos (by omega)] at hS
      rw [decide_eq_true (by omega)] at hO
      subst hS hO
      ((conv => whnf); repeat (first | (apply load_at; (conv => lhs; whnf); (with_reducible assumption); rfl; (conv => whnf)) | (apply load_at; (conv => lhs; rw [add_plain, add_plain]); (with_reducible assumption); rfl; (conv => whnf)) | (apply loads_at; (conv => lhs; whnf); (with_reducible assumption); rfl; (conv => whnf)) | (refine ⟨⟨by omega, by omega⟩, ?_⟩; (conv => whnf))))
      rw [wrap_eq (show -9223372036854775808 ≤ i + 1 by omega) (by omega), Int.add_comm i 1]
      exact ⟨rfl, rfl⟩
  · have h : (!decide (i < 0)) = false := h
    have h3 : i < 0 := by simpa using h
    rw [if_neg (by omega)] at hS
    rw [decide_eq_false (by omega)] at hO
    subst hS hO
    ((conv => whnf); repeat (first | (apply load_at; (conv => lhs; whnf); (with_reducible assumption); rfl; (conv => whnf)) | (apply load_at; (conv => lhs; rw [add_plain, add_plain]); (with_reducible assumption); rfl; (conv => whnf)) | (apply loads_at; (conv => lhs; whnf); (with_reducible assumption); rfl; (conv => whnf)) | (refine ⟨⟨by omega, by omega⟩, ?_⟩; (conv => whnf))))
    exact ⟨rfl, rfl⟩
theorem rhome (n i : Int) (F : Heap) : FnK Tryd.prog 83 #[.int .i64 n, .int .i64 i] F (fun v F' => v = .tuple #[.int .i64 (homeI n i), .bool (isPg n i)] ∧ F' = F) := by
  have h1 := fun F => rpages n F
  have hO : isPg n i = decide (0 ≤ i ∧ i < pagesN n) := rfl
  have hS : homeI n i = if 0 ≤ i ∧ i < pagesN n then 1 + pagesN n + i else 0 := rfl
  have hle := pagesN_le n
  generalize pagesN n = r at h1 hO hS hle
  generalize isPg n i = z at hO
  generalize homeI n i = s at hS
  (refine fn_walk tab_ok Tryd.func83 rfl rfl rfl rfl ?_; (conv => whnf))
  refine cond_split (fun h => ?_) (fun h => ?_)
  · have h : (!decide (i < 0)) = true := h
    have h3 : ¬ i < 0 := by simpa using h
    ((conv => whnf); repeat (first | (apply load_at; (conv => lhs; whnf); (with_reducible assumption); rfl; (conv => whnf)) | (apply load_at; (conv => lhs; rw [add_plain, add_plain]); (with_reducible assumption); rfl; (conv => whnf)) | (apply loads_at; (conv => lhs; whnf); (with_reducible assumption); rfl; (conv => whnf)) | (refine ⟨⟨by omega, by omega⟩, ?_⟩; (conv => whnf))))
    refine call_of (h1 F) ?_
    rintro v _ ⟨rfl, rfl⟩
    ((conv => whnf); repeat (first | (apply load_at; (conv => lhs; whnf); (with_reducible assumption); rfl; (conv => whnf)) | (apply load_at; (conv => lhs; rw [add_plain, add_plain]); (with_reducible assumption); rfl; (conv => whnf)) | (apply loads_at; (conv => lhs; whnf); (with_reducible assumption); rfl; (conv => whnf)) | (refine ⟨⟨by omega, by omega⟩, ?_⟩; (conv => whnf))))
    refine cond_split (fun h => ?_) (fun h => ?_)
    · have h4 : i ≥ r := of_decide_eq_true (show decide (i ≥ r) = true from h)
      rw [if_neg (by omega)] at hS
      rw [decide_eq_false (by omega)] at hO
      subst hS hO
      ((conv => whnf); repeat (first | (apply load_at; (conv => lhs; whnf); (with_reducible assumption); rfl; (conv => whnf)) | (apply load_at; (conv => lhs; rw [add_plain, add_plain]); (with_reducible assumption); rfl; (conv => whnf)) | (apply loads_at; (conv => lhs; whnf); (with_reducible assumption); rfl; (conv => whnf)) | (refine ⟨⟨by omega, by omega⟩, ?_⟩; (conv => whnf))))
      exact ⟨rfl, rfl⟩
    · have h4 : ¬ i ≥ r := of_decide_eq_false (show decide (i ≥ r) = false from h)
      rw [if_pos (by omega)] at hS
      rw [decide_eq_true (by omega)] at hO
      subst hS hO
      ((conv => whnf); repeat (first | (apply load_at; (conv => lhs; whnf); (with_reducible assumption); rfl; (conv => whnf)) | (apply load_at; (conv => lhs; rw [add_plain, add_plain]); (with_reducible assumption); rfl; (conv => whnf)) | (apply loads_at; (conv => lhs; whnf); (with_reducible assumption); rfl; (conv => whnf)) | (refine ⟨⟨by omega, by omega⟩, ?_⟩; (conv => whnf))))
      refine call_of (h1 _) ?_
      rintro v _ ⟨rfl, rfl⟩
      ((conv => whnf); repeat (first | (apply load_at; (conv => lhs; whnf); (with_reducible assumption); rfl; (conv => whnf)) | (apply load_at; (conv => lhs; rw [add_plain, add_plain]); (with_reducible assumption); rfl; (conv => whnf)) | (apply loads_at; (conv => lhs; whnf); (with_reducible assumption); rfl; (conv => whnf)) | (refine ⟨⟨by omega, by omega⟩, ?_⟩; (conv => whnf))))
      rw [wrap_eq (show -9223372036854775808 ≤ i + 1 by omega) (by omega), wrap_eq (by omega) (by omega), show i + 1 + r = 1 + r + i by omega]
      exact ⟨rfl, rfl⟩
  · have h : (!decide (i < 0)) = false := h
    have h3 : i < 0 := by simpa using h
    rw [if_neg (by omega)] at hS
    rw [decide_eq_false (by omega)] at hO
    subst hS hO
    ((conv => whnf); repeat (first | (apply load_at; (conv => lhs; whnf); (with_reducible assumption); rfl; (conv => whnf)) | (apply load_at; (conv => lhs; rw [add_plain, add_plain]); (with_reducible assumption); rfl; (conv => whnf)) | (apply loads_at; (conv => lhs; whnf); (with_reducible assumption); rfl; (conv => whnf)) | (refine ⟨⟨by omega, by omega⟩, ?_⟩; (conv => whnf))))
    exact ⟨rfl, rfl⟩
theorem markI (F : Heap) : FnK Tryd.prog 102 #[] F (fun v F' => v = .int .i64 0 ∧ F' = F) := by
  (refine fn_walk tab_ok Tryd.func102 rfl rfl rfl rfl ?_; (conv => whnf))
  exact ⟨rfl, rfl⟩
theorem lslots (n : Int) (F : Heap) : FnK Tryd.prog 117 #[.int .i64 n] F (fun v F' => v = .agg #[.int .i64 1, .int .i64 (pagesN n)] ∧ Ext F F') := by
  have h1 := fun F => pages n F
  generalize pagesN n = r at h1
  (refine fn_walk tab_ok Tryd.func117 rfl rfl rfl rfl ?_; (conv => whnf))
  refine new_step (.cells #[.int .i64 0, .int .i64 0] 145) rfl fun b h0_b => ?_
  have hE_b := Ext.new h0_b (.cells #[.int .i64 0, .int .i64 0] 145)
  have hB_b := Heap.put_same F b (.cells #[.int .i64 0, .int .i64 0] 145)
  generalize F.put b _ = G at hE_b hB_b ⊢
  ((conv => whnf); repeat (first | (apply load_at; (conv => lhs; whnf); (with_reducible assumption); rfl; (conv => whnf)) | (apply load_at; (conv => lhs; rw [add_plain, add_plain]); (with_reducible assumption); rfl; (conv => whnf)) | (apply loads_at; (conv => lhs; whnf); (with_reducible assumption); rfl; (conv => whnf)) | (refine ⟨⟨by omega, by omega⟩, ?_⟩; (conv => whnf))))
  refine call_of (h1 G) ?_
  rintro v G ⟨rfl, rfl⟩
  ((conv => whnf); repeat (first | (apply load_at; (conv => lhs; whnf); (with_reducible assumption); rfl; (conv => whnf)) | (apply load_at; (conv => lhs; rw [add_plain, add_plain]); (with_reducible assumption); rfl; (conv => whnf)) | (apply loads_at; (conv => lhs; whnf); (with_reducible assumption); rfl; (conv => whnf)) | (refine ⟨⟨by omega, by omega⟩, ?_⟩; (conv => whnf))))
  refine store_step b 0 _ #[.int .i64 1, .int .i64 r] rfl hB_b rfl rfl (.inl (Nat.le_refl 0)) (two_ints _ _) ?_
  have hB := Heap.put_same G b (.cells #[.int .i64 1, .int .i64 r] 145)
  have hE : Ext F (G.put b (.cells #[.int .i64 1, .int .i64 r] 145)) := hE_b.put h0_b _
  generalize G.put b _ = G2 at hB hE ⊢
  ((conv => whnf); repeat (first | (apply load_at; (conv => lhs; whnf); (with_reducible assumption); rfl; (conv => whnf)) | (apply load_at; (conv => lhs; rw [add_plain, add_plain]); (with_reducible assumption); rfl; (conv => whnf)) | (apply loads_at; (conv => lhs; whnf); (with_reducible assumption); rfl; (conv => whnf)) | (refine ⟨⟨by omega, by omega⟩, ?_⟩; (conv => whnf))))
  refine res_cells tab_ok rfl rfl hB rfl ?_
  ((conv => whnf); repeat (first | (apply load_at; (conv => lhs; whnf); (with_reducible assumption); rfl; (conv => whnf)) | (apply load_at; (conv => lhs; rw [add_plain, add_plain]); (with_reducible assumption); rfl; (conv => whnf)) | (apply loads_at; (conv => lhs; whnf); (with_reducible assumption); rfl; (conv => whnf)) | (refine ⟨⟨by omega, by omega⟩, ?_⟩; (conv => whnf))))
  exact ⟨rfl, hE⟩
theorem lhomes (n : Int) (F : Heap) : FnK Tryd.prog 98 #[.int .i64 n] F (fun v F' => v = .agg #[.int .i64 (1 + pagesN n), .int .i64 (pagesN n)] ∧ Ext F F') := by
  have h1 := fun F => lslots n F
  have hle := pagesN_le n
  generalize pagesN n = r at h1 hle
  (refine fn_walk tab_ok Tryd.func98 rfl rfl rfl rfl ?_; (conv => whnf))
  refine new_step (.cells #[.int .i64 0, .int .i64 0] 145) rfl fun b h0_b => ?_
  have hE_b := Ext.new h0_b (.cells #[.int .i64 0, .int .i64 0] 145)
  have hB_b := Heap.put_same F b (.cells #[.int .i64 0, .int .i64 0] 145)
  generalize F.put b _ = G at hE_b hB_b ⊢
  ((conv => whnf); repeat (first | (apply load_at; (conv => lhs; whnf); (with_reducible assumption); rfl; (conv => whnf)) | (apply load_at; (conv => lhs; rw [add_plain, add_plain]); (with_reducible assumption); rfl; (conv => whnf)) | (apply loads_at; (conv => lhs; whnf); (with_reducible assumption); rfl; (conv => whnf)) | (refine ⟨⟨by omega, by omega⟩, ?_⟩; (conv => whnf))))
  refine call_of (h1 G) ?_
  rintro v G1 ⟨rfl, hE1⟩
  have hB1 := hE1 _ _ hB_b
  have hE2 := hE_b.trans hE1
  ((conv => whnf); repeat (first | (apply load_at; (conv => lhs; whnf); (with_reducible assumption); rfl; (conv => whnf)) | (apply load_at; (conv => lhs; rw [add_plain, add_plain]); (with_reducible assumption); rfl; (conv => whnf)) | (apply loads_at; (conv => lhs; whnf); (with_reducible assumption); rfl; (conv => whnf)) | (refine ⟨⟨by omega, by omega⟩, ?_⟩; (conv => whnf))))
  refine new_step (.cells #[.int .i64 0, .int .i64 0] 145) rfl fun c h0_c => ?_
  have hE_c := Ext.new h0_c (.cells #[.int .i64 0, .int .i64 0] 145)
  have hB_c := Heap.put_same G1 c (.cells #[.int .i64 0, .int .i64 0] 145)
  generalize G1.put c _ = G2 at hE_c hB_c ⊢
  have hB2 := hE_c _ _ hB1
  have hbc : b ≠ c := fun e => by rw [← e, hB1] at h0_c; cases h0_c
  ((conv => whnf); repeat (first | (apply load_at; (conv => lhs; whnf); (with_reducible assumption); rfl; (conv => whnf)) | (apply load_at; (conv => lhs; rw [add_plain, add_plain]); (with_reducible assumption); rfl; (conv => whnf)) | (apply loads_at; (conv => lhs; whnf); (with_reducible assumption); rfl; (conv => whnf)) | (refine ⟨⟨by omega, by omega⟩, ?_⟩; (conv => whnf))))
  refine store_step c 0 _ #[.int .i64 1, .int .i64 r] rfl hB_c rfl rfl (.inl (Nat.le_refl 0)) (two_ints _ _) ?_
  have hB := Heap.put_same G2 c (.cells #[.int .i64 1, .int .i64 r] 145)
  have hE : Ext G1 (G2.put c (.cells #[.int .i64 1, .int .i64 r] 145)) := hE_c.put h0_c _
  have hB3 := hE _ _ hB1
  generalize G2.put c _ = G3 at hB hE hB3 ⊢
  ((conv => whnf); repeat (first | (apply load_at; (conv => lhs; whnf); (with_reducible assumption); rfl; (conv => whnf)) | (apply load_at; (conv => lhs; rw [add_plain, add_plain]); (with_reducible assumption); rfl; (conv => whnf)) | (apply loads_at; (conv => lhs; whnf); (with_reducible assumption); rfl; (conv => whnf)) | (refine ⟨⟨by omega, by omega⟩, ?_⟩; (conv => whnf))))
  rw [wrap_eq (show -9223372036854775808 ≤ 1 + r by omega) (by omega)]
  refine store_step b 0 _ #[.int .i64 (1 + r), .int .i64 r] rfl hB3 rfl rfl (.inl (Nat.le_refl 0)) (two_ints _ _) ?_
  have hB4 := Heap.put_same G3 b (.cells #[.int .i64 (1 + r), .int .i64 r] 145)
  have hE4 : Ext F (G3.put b (.cells #[.int .i64 (1 + r), .int .i64 r] 145)) := (hE2.trans hE).put h0_b _
  generalize G3.put b _ = G4 at hB4 hE4 ⊢
  ((conv => whnf); repeat (first | (apply load_at; (conv => lhs; whnf); (with_reducible assumption); rfl; (conv => whnf)) | (apply load_at; (conv => lhs; rw [add_plain, add_plain]); (with_reducible assumption); rfl; (conv => whnf)) | (apply loads_at; (conv => lhs; whnf); (with_reducible assumption); rfl; (conv => whnf)) | (refine ⟨⟨by omega, by omega⟩, ?_⟩; (conv => whnf))))
  refine res_cells tab_ok rfl rfl hB4 rfl ?_
  ((conv => whnf); repeat (first | (apply load_at; (conv => lhs; whnf); (with_reducible assumption); rfl; (conv => whnf)) | (apply load_at; (conv => lhs; rw [add_plain, add_plain]); (with_reducible assumption); rfl; (conv => whnf)) | (apply loads_at; (conv => lhs; whnf); (with_reducible assumption); rfl; (conv => whnf)) | (refine ⟨⟨by omega, by omega⟩, ?_⟩; (conv => whnf))))
  exact ⟨rfl, hE4⟩
theorem areaAt (f r i : Int) (hf : 0 ≤ f ∧ f ≤ 100000) (hr : r ≤ 100000) (F : Heap) : FnK Tryd.prog 99 #[.agg #[.int .i64 f, .int .i64 r], .int .i64 i] F (fun v F' => v = .tuple #[.int .i64 (if 0 ≤ i ∧ i < r then f + i else 0), .bool (decide (0 ≤ i ∧ i < r))] ∧ Ext F F') := by
  obtain ⟨s, hS⟩ : ∃ s, s = if 0 ≤ i ∧ i < r then f + i else 0 := ⟨_, rfl⟩
  obtain ⟨z, hO⟩ : ∃ z, z = decide (0 ≤ i ∧ i < r) := ⟨_, rfl⟩
  rw [← hS, ← hO]
  (refine fn_walk tab_ok Tryd.func99 rfl rfl rfl rfl ?_; (conv => whnf))
  refine new_step (.cells #[.int .i64 f, .int .i64 r] 145) rfl fun b h0_b => ?_
  have hE_b := Ext.new h0_b (.cells #[.int .i64 f, .int .i64 r] 145)
  have hB_b := Heap.put_same F b (.cells #[.int .i64 f, .int .i64 r] 145)
  generalize F.put b _ = G at hE_b hB_b ⊢
  ((conv => whnf); repeat (first | (apply load_at; (conv => lhs; whnf); (with_reducible assumption); rfl; (conv => whnf)) | (apply load_at; (conv => lhs; rw [add_plain, add_plain]); (with_reducible assumption); rfl; (conv => whnf)) | (apply loads_at; (conv => lhs; whnf); (with_reducible assumption); rfl; (conv => whnf)) | (refine ⟨⟨by omega, by omega⟩, ?_⟩; (conv => whnf))))
  refine cond_split (fun h => ?_) (fun h => ?_)
  · have h : (!decide (i < 0)) = true := h
    have h3 : ¬ i < 0 := by simpa using h
    ((conv => whnf); repeat (first | (apply load_at; (conv => lhs; whnf); (with_reducible assumption); rfl; (conv => whnf)) | (apply load_at; (conv => lhs; rw [add_plain, add_plain]); (with_reducible assumption); rfl; (conv => whnf)) | (apply loads_at; (conv => lhs; whnf); (with_reducible assumption); rfl; (conv => whnf)) | (refine ⟨⟨by omega, by omega⟩, ?_⟩; (conv => whnf))))
    refine cond_split (fun h => ?_) (fun h => ?_)
    · have h4 : i ≥ r := of_decide_eq_true (show decide (i ≥ r) = true from h)
      rw [if_neg (by omega)] at hS
      rw [decide_eq_false (by omega)] at hO
      subst hS hO
      ((conv => whnf); repeat (first | (apply load_at; (conv => lhs; whnf); (with_reducible assumption); rfl; (conv => whnf)) | (apply load_at; (conv => lhs; rw [add_plain, add_plain]); (with_reducible assumption); rfl; (conv => whnf)) | (apply loads_at; (conv => lhs; whnf); (with_reducible assumption); rfl; (conv => whnf)) | (refine ⟨⟨by omega, by omega⟩, ?_⟩; (conv => whnf))))
      exact ⟨rfl, hE_b⟩
    · have h4 : ¬ i ≥ r := of_decide_eq_false (show decide (i ≥ r) = false from h)
      rw [if_pos (by omega)] at hS
      rw [decide_eq_true (by omega)] at hO
      subst hS hO
      ((conv => whnf); repeat (first | (apply load_at; (conv => lhs; whnf); (with_reducible assumption); rfl; (conv => whnf)) | (apply load_at; (conv => lhs; rw [add_plain, add_plain]); (with_reducible assumption); rfl; (conv => whnf)) | (apply loads_at; (conv => lhs; whnf); (with_reducible assumption); rfl; (conv => whnf)) | (refine ⟨⟨by omega, by omega⟩, ?_⟩; (conv => whnf))))
      rw [wrap_eq (show -9223372036854775808 ≤ f + i by omega) (by omega)]
      exact ⟨rfl, hE_b⟩
  · have h : (!decide (i < 0)) = false := h
    have h3 : i < 0 := by simpa using h
    rw [if_neg (by omega)] at hS
    rw [decide_eq_false (by omega)] at hO
    subst hS hO
    ((conv => whnf); repeat (first | (apply load_at; (conv => lhs; whnf); (with_reducible assumption); rfl; (conv => whnf)) | (apply load_at; (conv => lhs; rw [add_plain, add_plain]); (with_reducible assumption); rfl; (conv => whnf)) | (apply loads_at; (conv => lhs; whnf); (with_reducible assumption); rfl; (conv => whnf)) | (refine ⟨⟨by omega, by omega⟩, ?_⟩; (conv => whnf))))
    exact ⟨rfl, hE_b⟩
theorem slot (n i : Int) (F : Heap) : FnK Tryd.prog 107 #[.int .i64 n, .int .i64 i] F (fun v F' => v = .tuple #[.int .i64 (slotI n i), .bool (isPg n i)] ∧ Ext F F') := by
  have hle := pagesN_le n
  have h1 := fun F => lslots n F
  have h2 := fun F => areaAt 1 (pagesN n) i (by decide) (by omega) F
  have hS : slotI n i = if 0 ≤ i ∧ i < pagesN n then 1 + i else 0 := rfl
  have hO : isPg n i = decide (0 ≤ i ∧ i < pagesN n) := rfl
  rw [← hS, ← hO] at h2
  generalize slotI n i = s at h2
  generalize isPg n i = z at h2
  generalize pagesN n = r at h1 h2
  (refine fn_walk tab_ok Tryd.func107 rfl rfl rfl rfl ?_; (conv => whnf))
  refine call_of (h1 F) ?_
  rintro v F1 ⟨rfl, hE1⟩
  ((conv => whnf); repeat (first | (apply load_at; (conv => lhs; whnf); (with_reducible assumption); rfl; (conv => whnf)) | (apply load_at; (conv => lhs; rw [add_plain, add_plain]); (with_reducible assumption); rfl; (conv => whnf)) | (apply loads_at; (conv => lhs; whnf); (with_reducible assumption); rfl; (conv => whnf)) | (refine ⟨⟨by omega, by omega⟩, ?_⟩; (conv => whnf))))
  refine call_of (h2 F1) ?_
  rintro v F2 ⟨rfl, hE2⟩
  ((conv => whnf); repeat (first | (apply load_at; (conv => lhs; whnf); (with_reducible assumption); rfl; (conv => whnf)) | (apply load_at; (conv => lhs; rw [add_plain, add_plain]); (with_reducible assumption); rfl; (conv => whnf)) | (apply loads_at; (conv => lhs; whnf); (with_reducible assumption); rfl; (conv => whnf)) | (refine ⟨⟨by omega, by omega⟩, ?_⟩; (conv => whnf))))
  exact ⟨rfl, hE1.trans hE2⟩
theorem home (n i : Int) (F : Heap) : FnK Tryd.prog 59 #[.int .i64 n, .int .i64 i] F (fun v F' => v = .tuple #[.int .i64 (homeI n i), .bool (isPg n i)] ∧ Ext F F') := by
  have hle := pagesN_le n
  have h1 := fun F => lhomes n F
  have h2 := fun F => areaAt (1 + pagesN n) (pagesN n) i (by omega) (by omega) F
  have hS : homeI n i = if 0 ≤ i ∧ i < pagesN n then 1 + pagesN n + i else 0 := rfl
  have hO : isPg n i = decide (0 ≤ i ∧ i < pagesN n) := rfl
  rw [← hS, ← hO] at h2
  generalize homeI n i = s at h2
  generalize isPg n i = z at h2
  generalize pagesN n = r at h1 h2
  (refine fn_walk tab_ok Tryd.func59 rfl rfl rfl rfl ?_; (conv => whnf))
  refine call_of (h1 F) ?_
  rintro v F1 ⟨rfl, hE1⟩
  ((conv => whnf); repeat (first | (apply load_at; (conv => lhs; whnf); (with_reducible assumption); rfl; (conv => whnf)) | (apply load_at; (conv => lhs; rw [add_plain, add_plain]); (with_reducible assumption); rfl; (conv => whnf)) | (apply loads_at; (conv => lhs; whnf); (with_reducible assumption); rfl; (conv => whnf)) | (refine ⟨⟨by omega, by omega⟩, ?_⟩; (conv => whnf))))
  refine call_of (h2 F1) ?_
  rintro v F2 ⟨rfl, hE2⟩
  ((conv => whnf); repeat (first | (apply load_at; (conv => lhs; whnf); (with_reducible assumption); rfl; (conv => whnf)) | (apply load_at; (conv => lhs; rw [add_plain, add_plain]); (with_reducible assumption); rfl; (conv => whnf)) | (apply loads_at; (conv => lhs; whnf); (with_reducible assumption); rfl; (conv => whnf)) | (refine ⟨⟨by omega, by omega⟩, ?_⟩; (conv => whnf))))
  exact ⟨rfl, hE1.trans hE2⟩
end Go.Proofs.YtmpiggcooboenaaDoor.Al
/- Logs: what a disk does in plain words, whichever it is; redo.write, what stands at the mark, redo.Format. -/
namespace Go.Proofs.YtmpiggcooboenaaDoor.Al
open Go Go.Al Go.Proofs Go.RowKit
set_option maxHeartbeats 8000000
set_option maxRecDepth 100000
set_option linter.unusedVariables false
set_option linter.unusedSimpArgs false
/-- What a disk does, whichever it is. -/
structure DOps (α : Type) where
  sz : α → Int
  rdE : α → Int → Int
  rdL : α → Int → List UInt8
  wrE : α → Int → List UInt8 → Int
  wrS : α → Int → List UInt8 → α
  flE : α → Int
  flS : α → α
def dsO : DOps DS := ⟨fun s => s.size, readE, readL, writeE, writeS, flushE, flushS⟩
def rsO : DOps RS := ⟨fun r => (r.L.length : Int), rreadE, rreadL, rwriteE, rwriteS, fun r => if r.down = true then 5 else 0, rflushS⟩
/-- Pieces are written in order, up to the first that is refused; then it is flushed. -/
def runW {α : Type} (o : DOps α) : α → List (Int × List UInt8) → α × Int
  | a, [] => (o.flS a, o.flE a)
  | a, p :: ps => if o.wrE a p.1 p.2 = 0 then runW o (o.wrS a p.1 p.2) ps else (o.wrS a p.1 p.2, o.wrE a p.1 p.2)
theorem runW_cons {α : Type} (o : DOps α) (a : α) (p : Int × List UInt8) (ps : List (Int × List UInt8)) : runW o a (p :: ps) = if o.wrE a p.1 p.2 = 0 then runW o (o.wrS a p.1 p.2) ps else (o.wrS a p.1 p.2, o.wrE a p.1 p.2) := rfl
theorem writes_le (s : DS) (i : Int) (l : List UInt8) : (writeS s i l).writes ≤ s.writes + 1 ∧ (writeS s i l).size = s.size := by
  unfold writeS
  split
  · exact ⟨by omega, rfl⟩
  split
  · exact ⟨Int.le_refl _, rfl⟩
  · exact ⟨by show s.writes ≤ s.writes + 1; omega, rfl⟩
theorem flush_le (s : DS) : (flushS s).writes = s.writes ∧ (flushS s).size = s.size := by
  unfold flushS
  split <;> exact ⟨rfl, rfl⟩
theorem runW_le : ∀ (ps : List (Int × List UInt8)) (s : DS), (runW dsO s ps).1.writes ≤ s.writes + ps.length ∧ (runW dsO s ps).1.size = s.size
  | [], s => by
    obtain ⟨h1, h2⟩ := flush_le s
    exact ⟨by show (flushS s).writes ≤ s.writes + (0 : Nat); omega, h2⟩
  | p :: ps, s => by
    rw [runW_cons]
    obtain ⟨h1, h2⟩ := writes_le s p.1 p.2
    split
    · obtain ⟨h3, h4⟩ := runW_le ps (dsO.wrS s p.1 p.2)
      replace h3 : (runW dsO (writeS s p.1 p.2) ps).1.writes ≤ (writeS s p.1 p.2).writes + ps.length := h3
      replace h4 : (runW dsO (writeS s p.1 p.2) ps).1.size = (writeS s p.1 p.2).size := h4
      refine ⟨?_, h4.trans h2⟩
      show (runW dsO (writeS s p.1 p.2) ps).1.writes ≤ s.writes + ((ps.length + 1 : Nat) : Int)
      omega
    · refine ⟨?_, h2⟩
      show (writeS s p.1 p.2).writes ≤ s.writes + ((ps.length + 1 : Nat) : Int)
      omega
theorem read_len {D : Heap} {b : Nat} {s : DS} (hD : Dk D b s) (i : Int) : (readL s i).length ≤ 256 := by
  obtain ⟨hwf, ms, mf, S, lS, lF, G, hP⟩ := hD
  unfold readL
  split
  · exact Nat.zero_le _
  unfold secB
  split
  · next l hl =>
    cases hm : getM lF i with
    | none => rw [hP.rf.no i hm] at hl; cases hl
    | some v =>
      obtain ⟨l', h1, h2, _⟩ := hP.rf.yes i v hm
      rw [hl] at h1; cases h1; omega
  · split
    · next l hl =>
      cases hm : getM lS i with
      | none => rw [hP.rs.no i hm] at hl; cases hl
      | some v =>
        obtain ⟨l', h1, h2, _⟩ := hP.rs.yes i v hm
        rw [hl] at h1; cases h1; omega
    · rw [List.length_replicate]; exact Nat.le_refl _
/-- A piece of a log. -/
structure PcR where
  at_ : Int
  l : List UInt8
  A : Option Addr
  c : Nat
def pcC (p : PcR) : List Value := [.int .i64 p.at_, .slice p.A p.l.length p.c]
theorem pcC_len (p : PcR) : (pcC p).length = 2 := rfl
def pcW (p : PcR) : Int × List UInt8 := (p.at_, p.l)
structure PcOk (G : Heap) (p : PcR) : Prop where
  row : RowAt G p.A (bytesOf p.l)
  len : p.l.length ≤ 900000
theorem PcOk.mono {F G : Heap} {p : PcR} (h : PcOk F p) (hE : Ext F G) : PcOk G p := ⟨h.row.mono hE, h.len⟩
abbrev pcO (p : PcR) : Obj := .cells (pcC p).toArray 149
theorem pc_one (p : PcR) : ∀ v ∈ pcC p, v.oneCell' = true := by simp [pcC, Value.oneCell']
theorem redoWrite {D F R : Heap} {b : Nat} {s : DS} (hE : Ext D F) (hD : Dk D b s) (hR : Ext R F) (hA : Apart D R) (ps : List PcR) (A : Option Addr) (c : Nat) (hr : RowAt R A (rowS pcC ps)) (hp : ∀ p ∈ ps, PcOk R p) (hl : ps.length ≤ 100000) (hw : s.writes + ps.length < 1000000000) :
    FnK Tryd.prog 64 #[.pointer (some ⟨b, 0, none⟩), .slice A ps.length c] F (fun v F' => v = .int .i64 (runW dsO s (ps.map pcW)).2 ∧ ∃ D', Moves D F D' F' ∧ Dk D' b (runW dsO s (ps.map pcW)).1) := by
  obtain ⟨res, hres⟩ : ∃ r, r = runW dsO s (ps.map pcW) := ⟨_, rfl⟩
  rw [← hres]
  (refine fn_walk tab_ok Tryd.func64 rfl rfl rfl rfl ?_; (conv => whnf))
  refine loop_slots [0, 8, 9, 10] (fun k vs F' => ∃ (i : Nat) (s1 : DS) (D1 : Heap), i + k = ps.length ∧ vs = [.pointer (some ⟨b, 0, none⟩), .slice A ps.length c, .int .i64 (ps.length : Int), .int .i64 (i : Int)] ∧ Moves D F D1 F' ∧ Dk D1 b s1 ∧ s1.writes + k < 1000000000 ∧ res = runW dsO s1 ((ps.drop i).map pcW)) ps.length ⟨0, s, D, by omega, rfl, Moves.refl hE, hD, hw, hres⟩ ?_
  rintro k vs F1 ρ ⟨i, s1, D1, hik, rfl, hM, hD1, hw1, hrs⟩
  have hR1 := hM.keep hR hA
  have hA1 := hM.apart hR hA
  ((conv => whnf); repeat (first | (apply load_at; (conv => lhs; whnf); (with_reducible assumption); rfl; (conv => whnf)) | (apply load_at; (conv => lhs; rw [add_plain, add_plain]); (with_reducible assumption); rfl; (conv => whnf)) | (apply loads_at; (conv => lhs; whnf); (with_reducible assumption); rfl; (conv => whnf)) | (refine ⟨⟨by omega, by omega⟩, ?_⟩; (conv => whnf))))
  refine cond_split (fun h => ?_) (fun h => ?_)
  · have hi : i < ps.length := by
      have h : decide ((i : Int) < (ps.length : Int)) = true := h
      have := of_decide_eq_true h
      omega
    obtain ⟨ad, rfl⟩ := hr.some (by rw [rowS_len pcC_len]; omega)
    have hx : ps[i]? = some ps[i] := List.getElem?_eq_getElem hi
    have hok := (hp _ (List.getElem_mem hi)).mono hR1
    rw [List.drop_eq_getElem_cons hi, List.map_cons, runW_cons] at hrs
    have hL : ∀ K : Value → Prop, K (.agg (pcC ps[i]).toArray) → LoadsK F1 (ad.add (Int.toNat (i : Int) * 2)) 2 K := fun K hk => rowS_loads pcC_len (by decide) (hr.mono hR1) hx hk
    have hrow := (hp _ (List.getElem_mem hi)).row
    generalize ps[i] = p at hok hrs hL hrow
    obtain ⟨pat, pl, pA, pc⟩ := p
    have hle := writes_le s1 pat pl
    ((conv => whnf); repeat (first | (apply load_at; (conv => lhs; whnf); (with_reducible assumption); rfl; (conv => whnf)) | (apply load_at; (conv => lhs; rw [add_plain, add_plain]); (with_reducible assumption); rfl; (conv => whnf)) | (apply loads_at; (conv => lhs; whnf); (with_reducible assumption); rfl; (conv => whnf)) | (refine ⟨⟨by omega, by omega⟩, ?_⟩; (conv => whnf))))
    refine hL _ ?_
    ((conv => whnf); repeat (first | (apply load_at; (conv => lhs; whnf); (with_reducible assumption); rfl; (conv => whnf)) | (apply load_at; (conv => lhs; rw [add_plain, add_plain]); (with_reducible assumption); rfl; (conv => whnf)) | (apply loads_at; (conv => lhs; whnf); (with_reducible assumption); rfl; (conv => whnf)) | (refine ⟨⟨by omega, by omega⟩, ?_⟩; (conv => whnf))))
    refine new_step (.cells #[.int .i64 0, .slice none 0 0] 149) rfl fun q h0_q => ?_
    have hE_q := Ext.new h0_q (.cells #[.int .i64 0, .slice none 0 0] 149)
    have hB_q := Heap.put_same F1 q (.cells #[.int .i64 0, .slice none 0 0] 149)
    generalize F1.put q _ = F2 at hE_q hB_q ⊢
    ((conv => whnf); repeat (first | (apply load_at; (conv => lhs; whnf); (with_reducible assumption); rfl; (conv => whnf)) | (apply load_at; (conv => lhs; rw [add_plain, add_plain]); (with_reducible assumption); rfl; (conv => whnf)) | (apply loads_at; (conv => lhs; whnf); (with_reducible assumption); rfl; (conv => whnf)) | (refine ⟨⟨by omega, by omega⟩, ?_⟩; (conv => whnf))))
    refine store_step q 0 _ (pcC ⟨pat, pl, pA, pc⟩).toArray rfl hB_q rfl rfl (.inl (Nat.le_refl 0)) (pc_one ⟨pat, pl, pA, pc⟩) ?_
    have hB := Heap.put_same F2 q (pcO ⟨pat, pl, pA, pc⟩)
    have hE3 : Ext F1 (F2.put q (pcO ⟨pat, pl, pA, pc⟩)) := hE_q.put h0_q _
    generalize F2.put q _ = F3 at hB hE3 ⊢
    have hM3 := hM.trans (Moves.ext hM.inn hE3)
    ((conv => whnf); repeat (first | (apply load_at; (conv => lhs; whnf); (with_reducible assumption); rfl; (conv => whnf)) | (apply load_at; (conv => lhs; rw [add_plain, add_plain]); (with_reducible assumption); rfl; (conv => whnf)) | (apply loads_at; (conv => lhs; whnf); (with_reducible assumption); rfl; (conv => whnf)) | (refine ⟨⟨by omega, by omega⟩, ?_⟩; (conv => whnf))))
    refine call_of (write hM3.inn hD1 (hR1.trans hE3) hA1 pl pA pc hrow hok.len pat (by omega)) ?_
    rintro v F4 ⟨rfl, D2, hM4, hD2⟩
    have hM5 := hM3.trans hM4
    replace hrs : res = if writeE s1 pat pl = 0 then runW dsO (writeS s1 pat pl) ((ps.drop (i + 1)).map pcW) else (writeS s1 pat pl, writeE s1 pat pl) := hrs
    generalize writeS s1 pat pl = s2 at hrs hD2 hle
    generalize writeE s1 pat pl = e2 at hrs ⊢
    refine short [0, 8, 9, 10, 19] [.pointer (some ⟨b, 0, none⟩), .slice (some ad) ps.length c, .int .i64 (ps.length : Int), .int .i64 (i : Int), .int .i64 e2] rfl fun ρ => ?_
    ((conv => whnf); repeat (first | (apply load_at; (conv => lhs; whnf); (with_reducible assumption); rfl; (conv => whnf)) | (apply load_at; (conv => lhs; rw [add_plain, add_plain]); (with_reducible assumption); rfl; (conv => whnf)) | (apply loads_at; (conv => lhs; whnf); (with_reducible assumption); rfl; (conv => whnf)) | (refine ⟨⟨by omega, by omega⟩, ?_⟩; (conv => whnf))))
    refine cond_split (fun h => ?_) (fun h => ?_)
    · have he : ¬ e2 = 0 := by
        have h : (e2 != 0) = true := h
        simpa using h
      rw [if_neg he] at hrs
      rw [hrs]
      ((conv => whnf); repeat (first | (apply load_at; (conv => lhs; whnf); (with_reducible assumption); rfl; (conv => whnf)) | (apply load_at; (conv => lhs; rw [add_plain, add_plain]); (with_reducible assumption); rfl; (conv => whnf)) | (apply loads_at; (conv => lhs; whnf); (with_reducible assumption); rfl; (conv => whnf)) | (refine ⟨⟨by omega, by omega⟩, ?_⟩; (conv => whnf))))
      exact ⟨rfl, D2, hM5, hD2⟩
    · have he : e2 = 0 := by
        have h : (e2 != 0) = false := h
        simpa using h
      rw [if_pos he] at hrs
      ((conv => whnf); repeat (first | (apply load_at; (conv => lhs; whnf); (with_reducible assumption); rfl; (conv => whnf)) | (apply load_at; (conv => lhs; rw [add_plain, add_plain]); (with_reducible assumption); rfl; (conv => whnf)) | (apply loads_at; (conv => lhs; whnf); (with_reducible assumption); rfl; (conv => whnf)) | (refine ⟨⟨by omega, by omega⟩, ?_⟩; (conv => whnf))))
      refine ⟨k - 1, by omega, i + 1, s2, D2, by omega, ?_, hM5, hD2, by omega, hrs⟩
      rw [← wrap_succ (j := i) (by omega)]
      rfl
  · have hi : i = ps.length := by have := of_decide_eq_false h; omega
    subst hi
    rw [List.drop_length] at hrs
    ((conv => whnf); repeat (first | (apply load_at; (conv => lhs; whnf); (with_reducible assumption); rfl; (conv => whnf)) | (apply load_at; (conv => lhs; rw [add_plain, add_plain]); (with_reducible assumption); rfl; (conv => whnf)) | (apply loads_at; (conv => lhs; whnf); (with_reducible assumption); rfl; (conv => whnf)) | (refine ⟨⟨by omega, by omega⟩, ?_⟩; (conv => whnf))))
    refine call_of (flush hM.inn hD1) ?_
    rintro v F4 ⟨rfl, D2, hM4, hD2⟩
    rw [hrs]
    ((conv => whnf); repeat (first | (apply load_at; (conv => lhs; whnf); (with_reducible assumption); rfl; (conv => whnf)) | (apply load_at; (conv => lhs; rw [add_plain, add_plain]); (with_reducible assumption); rfl; (conv => whnf)) | (apply loads_at; (conv => lhs; whnf); (with_reducible assumption); rfl; (conv => whnf)) | (refine ⟨⟨by omega, by omega⟩, ?_⟩; (conv => whnf))))
    exact ⟨rfl, D2, hM.trans hM4, hD2⟩
/-- What stands at the mark. -/
def noteB (n q : Int) : List UInt8 := packB n q (List.replicate 240 0)
theorem noteB_len {n q : Int} (h : secR n q = true) : (noteB n q).length = 256 := packB_len (by unfold packY; rw [h]; decide)
theorem notePiece (n q : Int) (F : Heap) (hN : NibAt F) : FnK Tryd.prog 109 #[.agg #[.int .i64 n, .int .i64 q]] F (fun v F' => (∃ A c, v = .tuple #[.agg #[.int .i64 0, .slice A (noteB n q).length c], .int .i64 (packE n q (List.replicate 240 0))] ∧ (noteB n q).length ≤ c ∧ RowAt F' A (bytesOf (noteB n q)) ∧ (∀ a, A = some a → F a.block = none)) ∧ Ext F F') := by
  have h1 := fun A c F h hN => pack n q (List.replicate 240 0) A c F h (by rw [List.length_replicate]; decide) hN
  have h2 := fun F => markI F
  unfold noteB
  generalize packB n q (List.replicate 240 0) = nb at h1
  generalize packE n q (List.replicate 240 0) = e at h1
  (refine fn_walk tab_ok Tryd.func109 rfl rfl rfl rfl ?_; (conv => whnf))
  refine new_step (.cells #[.int .i64 n, .int .i64 q] 108) rfl fun t h0_t => ?_
  have hE_t := Ext.new h0_t (.cells #[.int .i64 n, .int .i64 q] 108)
  have hB_t := Heap.put_same F t (.cells #[.int .i64 n, .int .i64 q] 108)
  generalize F.put t _ = F1 at hE_t hB_t ⊢
  ((conv => whnf); repeat (first | (apply load_at; (conv => lhs; whnf); (with_reducible assumption); rfl; (conv => whnf)) | (apply load_at; (conv => lhs; rw [add_plain, add_plain]); (with_reducible assumption); rfl; (conv => whnf)) | (apply loads_at; (conv => lhs; whnf); (with_reducible assumption); rfl; (conv => whnf)) | (refine ⟨⟨by omega, by omega⟩, ?_⟩; (conv => whnf))))
  refine new_step (.cells #[.int .i64 0, .slice none 0 0] 149) rfl fun u h0_u => ?_
  have hE_u := Ext.new h0_u (.cells #[.int .i64 0, .slice none 0 0] 149)
  have hB_u := Heap.put_same F1 u (.cells #[.int .i64 0, .slice none 0 0] 149)
  generalize F1.put u _ = F2 at hE_u hB_u ⊢
  have hB2 := hE_u _ _ hB_t
  have hE2 := hE_t.trans hE_u
  ((conv => whnf); repeat (first | (apply load_at; (conv => lhs; whnf); (with_reducible assumption); rfl; (conv => whnf)) | (apply load_at; (conv => lhs; rw [add_plain, add_plain]); (with_reducible assumption); rfl; (conv => whnf)) | (apply loads_at; (conv => lhs; whnf); (with_reducible assumption); rfl; (conv => whnf)) | (refine ⟨⟨by omega, by omega⟩, ?_⟩; (conv => whnf))))
  refine draw_tree tab_ok (by kernel_rfl) [] (DT.row [0, 1, 2, 3, 4, 5, 6, 7, 8, 9, 10] .nil) (by kernel_rfl) ?_
  ((conv => whnf); repeat (first | (apply load_at; (conv => lhs; whnf); (with_reducible assumption); rfl; (conv => whnf)) | (apply load_at; (conv => lhs; rw [add_plain, add_plain]); (with_reducible assumption); rfl; (conv => whnf)) | (apply loads_at; (conv => lhs; whnf); (with_reducible assumption); rfl; (conv => whnf)) | (refine ⟨⟨by omega, by omega⟩, ?_⟩; (conv => whnf))))
  refine make_one tab_ok (z0 := .int .u8 0) 240 240 rfl rfl rfl rfl rfl ⟨rfl, by decide, _, rfl, rfl⟩ (by decide) (by decide) fun g h0_g => ?_
  have hE_g := Ext.new h0_g (.cells (List.replicate 240 (Value.int .u8 0)).toArray 5)
  have hB_g := Heap.put_same F2 g (.cells (List.replicate 240 (Value.int .u8 0)).toArray 5)
  generalize F2.put g _ = F3 at hE_g hB_g ⊢
  ((conv => whnf); repeat (first | (apply load_at; (conv => lhs; whnf); (with_reducible assumption); rfl; (conv => whnf)) | (apply load_at; (conv => lhs; rw [add_plain, add_plain]); (with_reducible assumption); rfl; (conv => whnf)) | (apply loads_at; (conv => lhs; whnf); (with_reducible assumption); rfl; (conv => whnf)) | (refine ⟨⟨by omega, by omega⟩, ?_⟩; (conv => whnf))))
  refine ⟨hE_g, ?_⟩
  have hrow : RowAt F3 (some ⟨g, 0, none⟩) (bytesOf (List.replicate 240 0)) := by
    have := row_blk hB_g
    rw [List.toList_toArray, zeros_bytes] at this
    exact this
  ((conv => whnf); repeat (first | (apply load_at; (conv => lhs; whnf); (with_reducible assumption); rfl; (conv => whnf)) | (apply load_at; (conv => lhs; rw [add_plain, add_plain]); (with_reducible assumption); rfl; (conv => whnf)) | (apply loads_at; (conv => lhs; whnf); (with_reducible assumption); rfl; (conv => whnf)) | (refine ⟨⟨by omega, by omega⟩, ?_⟩; (conv => whnf))))
  refine ⟨hE_g, ?_⟩
  ((conv => whnf); repeat (first | (apply load_at; (conv => lhs; whnf); (with_reducible assumption); rfl; (conv => whnf)) | (apply load_at; (conv => lhs; rw [add_plain, add_plain]); (with_reducible assumption); rfl; (conv => whnf)) | (apply loads_at; (conv => lhs; whnf); (with_reducible assumption); rfl; (conv => whnf)) | (refine ⟨⟨by omega, by omega⟩, ?_⟩; (conv => whnf))))
  refine call_of (h1 (some ⟨g, 0, none⟩) 240 F3 hrow (hN.mono (hE2.trans hE_g))) ?_
  rintro v F4 ⟨w, rfl, ⟨A, c, rfl, hc, hr, hf⟩, hE4⟩
  have hE5 := hE2.trans (hE_g.trans hE4)
  have hB4 := hE4 _ _ (hE_g _ _ hB_u)
  have hX := hE_g.trans hE4
  ((conv => whnf); repeat (first | (apply load_at; (conv => lhs; whnf); (with_reducible assumption); rfl; (conv => whnf)) | (apply load_at; (conv => lhs; rw [add_plain, add_plain]); (with_reducible assumption); rfl; (conv => whnf)) | (apply loads_at; (conv => lhs; whnf); (with_reducible assumption); rfl; (conv => whnf)) | (refine ⟨⟨by omega, by omega⟩, ?_⟩; (conv => whnf))))
  refine ⟨hX, ?_⟩
  ((conv => whnf); repeat (first | (apply load_at; (conv => lhs; whnf); (with_reducible assumption); rfl; (conv => whnf)) | (apply load_at; (conv => lhs; rw [add_plain, add_plain]); (with_reducible assumption); rfl; (conv => whnf)) | (apply loads_at; (conv => lhs; whnf); (with_reducible assumption); rfl; (conv => whnf)) | (refine ⟨⟨by omega, by omega⟩, ?_⟩; (conv => whnf))))
  refine call_of (h2 F4) ?_
  rintro v F4 ⟨rfl, rfl⟩
  refine short [2, 4, 5, 15] [.pointer (some ⟨u, 0, none⟩), .slice A nb.length c, .int .i64 e, .int .i64 0] rfl fun ρ => ?_
  ((conv => whnf); repeat (first | (apply load_at; (conv => lhs; whnf); (with_reducible assumption); rfl; (conv => whnf)) | (apply load_at; (conv => lhs; rw [add_plain, add_plain]); (with_reducible assumption); rfl; (conv => whnf)) | (apply loads_at; (conv => lhs; whnf); (with_reducible assumption); rfl; (conv => whnf)) | (refine ⟨⟨by omega, by omega⟩, ?_⟩; (conv => whnf))))
  refine store_step u 0 _ (pcC ⟨0, nb, A, c⟩).toArray rfl hB4 rfl rfl (.inl (Nat.le_refl 0)) (pc_one ⟨0, nb, A, c⟩) ?_
  have hB6 := Heap.put_same F4 u (pcO ⟨0, nb, A, c⟩)
  have h0u : F u = none := hE_t.none h0_u
  have hE6 : Ext F (F4.put u (pcO ⟨0, nb, A, c⟩)) := hE5.put h0u _
  have hr6 : RowAt (F4.put u (pcO ⟨0, nb, A, c⟩)) A (bytesOf nb) := by
    refine rowAt_keepq (q := u) hr (fun z o h h' => ?_) fun a ha e => ?_
    · rw [Heap.put_other _ _ (fun e => h' (by rw [e]))]
      exact h
    · have := hf a ha
      rw [e, hE_g _ _ hB_u] at this
      cases this
  generalize F4.put u _ = F6 at hB6 hE6 hr6 ⊢
  ((conv => whnf); repeat (first | (apply load_at; (conv => lhs; whnf); (with_reducible assumption); rfl; (conv => whnf)) | (apply load_at; (conv => lhs; rw [add_plain, add_plain]); (with_reducible assumption); rfl; (conv => whnf)) | (apply loads_at; (conv => lhs; whnf); (with_reducible assumption); rfl; (conv => whnf)) | (refine ⟨⟨by omega, by omega⟩, ?_⟩; (conv => whnf))))
  refine res_cells tab_ok rfl rfl hB6 rfl ?_
  ((conv => whnf); repeat (first | (apply load_at; (conv => lhs; whnf); (with_reducible assumption); rfl; (conv => whnf)) | (apply load_at; (conv => lhs; rw [add_plain, add_plain]); (with_reducible assumption); rfl; (conv => whnf)) | (apply loads_at; (conv => lhs; whnf); (with_reducible assumption); rfl; (conv => whnf)) | (refine ⟨⟨by omega, by omega⟩, ?_⟩; (conv => whnf))))
  refine ⟨⟨A, c, rfl, hc, hr6, fun a ha => ?_⟩, hE6⟩
  exact hE2.none (hE_g.none (hf a ha))
end Go.Proofs.YtmpiggcooboenaaDoor.Al
/- Logs: redo.mark, redo.Format, redo.read. -/
namespace Go.Proofs.YtmpiggcooboenaaDoor.Al
open Go Go.Al Go.Proofs Go.RowKit
set_option maxHeartbeats 8000000
set_option maxRecDepth 100000
set_option linter.unusedVariables false
set_option linter.unusedSimpArgs false
/-- What is new. -/
abbrev newH (F F' : Heap) : Heap := gain emptyH F F'
theorem newH_ext (F F' : Heap) : Ext (newH F F') F' := fun c o hc => by
  unfold newH gain at hc
  split at hc
  · exact hc
  · cases hc
theorem newH_apart {D F : Heap} (F' : Heap) (hD : Ext D F) : Apart D (newH F F') := fun c hc => by
  cases e : D c with
  | none => exact absurd e hc
  | some o => exact gain_old (hD _ _ e)
theorem newH_row {F F' : Heap} {A : Option Addr} {vs : List Value} (hr : RowAt F' A vs) (h : ∀ a, A = some a → F a.block = none) : RowAt (newH F F') A vs := rowAt_gain hr h
theorem new_row {F F' : Heap} {b : Nat} {cs : Array Value} {e : TypeId} (h : F' b = some (.cells cs e)) (hn : F b = none) : RowAt (newH F F') (some ⟨b, 0, none⟩) cs.toList := newH_row (row_blk h) fun a ha => by
  injection ha with ha
  subst ha
  exact hn
def markS {α : Type} (o : DOps α) (a : α) (n q : Int) : α × Int := if secR n q = true then runW o a [(0, noteB n q)] else (a, 1)
theorem redoMark {D F : Heap} {b : Nat} {s : DS} (hE : Ext D F) (hD : Dk D b s) (n q : Int) (hN : NibAt F) (hw : s.writes + 1 < 1000000000) :
    FnK Tryd.prog 67 #[.pointer (some ⟨b, 0, none⟩), .agg #[.int .i64 n, .int .i64 q]] F (fun v F' => v = .int .i64 (markS dsO s n q).2 ∧ ∃ D', Moves D F D' F' ∧ Dk D' b (markS dsO s n q).1) := by
  have h1 := fun F hN => notePiece n q F hN
  have hE' : packE n q (List.replicate 240 0) = if secR n q = true then 0 else 1 := by
    unfold packE packY
    rw [show ((List.replicate 240 (0 : UInt8)).length == 240) = true by rw [List.length_replicate]; decide, Bool.and_true]
  have hM : markS dsO s n q = if secR n q = true then runW dsO s [(0, noteB n q)] else (s, 1) := rfl
  have hnl : (noteB n q).length ≤ 900000 := by
    unfold noteB packB
    split
    · next h => have := packB_len h; unfold packB at this; rw [if_pos h] at this; omega
    · exact Nat.zero_le _
  generalize markS dsO s n q = ms at hM
  generalize noteB n q = nb at h1 hM hnl
  generalize packE n q (List.replicate 240 0) = e at h1 hE'
  generalize secR n q = z at hE' hM
  (refine fn_walk tab_ok Tryd.func67 rfl rfl rfl rfl ?_; (conv => whnf))
  refine new_step (.cells #[.int .i64 n, .int .i64 q] 108) rfl fun t h0_t => ?_
  have hE_t := Ext.new h0_t (.cells #[.int .i64 n, .int .i64 q] 108)
  have hB_t := Heap.put_same F t (.cells #[.int .i64 n, .int .i64 q] 108)
  generalize F.put t _ = F1 at hE_t hB_t ⊢
  ((conv => whnf); repeat (first | (apply load_at; (conv => lhs; whnf); (with_reducible assumption); rfl; (conv => whnf)) | (apply load_at; (conv => lhs; rw [add_plain, add_plain]); (with_reducible assumption); rfl; (conv => whnf)) | (apply loads_at; (conv => lhs; whnf); (with_reducible assumption); rfl; (conv => whnf)) | (refine ⟨⟨by omega, by omega⟩, ?_⟩; (conv => whnf))))
  refine call_of (h1 F1 (hN.mono hE_t)) ?_
  rintro v F2 ⟨⟨A, c, rfl, hc, hr, hf⟩, hE2⟩
  have hE02 := hE_t.trans hE2
  have hf0 : ∀ a, A = some a → F a.block = none := fun a ha => hE_t.none (hf a ha)
  ((conv => whnf); repeat (first | (apply load_at; (conv => lhs; whnf); (with_reducible assumption); rfl; (conv => whnf)) | (apply load_at; (conv => lhs; rw [add_plain, add_plain]); (with_reducible assumption); rfl; (conv => whnf)) | (apply loads_at; (conv => lhs; whnf); (with_reducible assumption); rfl; (conv => whnf)) | (refine ⟨⟨by omega, by omega⟩, ?_⟩; (conv => whnf))))
  refine new_step (.cells #[.int .i64 0, .slice none 0 0] 149) rfl fun u h0_u => ?_
  have hE_u := Ext.new h0_u (.cells #[.int .i64 0, .slice none 0 0] 149)
  have hB_u := Heap.put_same F2 u (.cells #[.int .i64 0, .slice none 0 0] 149)
  generalize F2.put u _ = F3 at hE_u hB_u ⊢
  ((conv => whnf); repeat (first | (apply load_at; (conv => lhs; whnf); (with_reducible assumption); rfl; (conv => whnf)) | (apply load_at; (conv => lhs; rw [add_plain, add_plain]); (with_reducible assumption); rfl; (conv => whnf)) | (apply loads_at; (conv => lhs; whnf); (with_reducible assumption); rfl; (conv => whnf)) | (refine ⟨⟨by omega, by omega⟩, ?_⟩; (conv => whnf))))
  refine store_step u 0 _ (pcC ⟨0, nb, A, c⟩).toArray rfl hB_u rfl rfl (.inl (Nat.le_refl 0)) (pc_one ⟨0, nb, A, c⟩) ?_
  have hB4 := Heap.put_same F3 u (pcO ⟨0, nb, A, c⟩)
  have hE4 : Ext F2 (F3.put u (pcO ⟨0, nb, A, c⟩)) := hE_u.put h0_u _
  generalize F3.put u _ = F4 at hB4 hE4 ⊢
  have hr4 := hr.mono hE4
  have hE04 := hE02.trans hE4
  refine short [0, 5, 11] [.pointer (some ⟨b, 0, none⟩), .pointer (some ⟨u, 0, none⟩), .int .i64 e] rfl fun ρ => ?_
  ((conv => whnf); repeat (first | (apply load_at; (conv => lhs; whnf); (with_reducible assumption); rfl; (conv => whnf)) | (apply load_at; (conv => lhs; rw [add_plain, add_plain]); (with_reducible assumption); rfl; (conv => whnf)) | (apply loads_at; (conv => lhs; whnf); (with_reducible assumption); rfl; (conv => whnf)) | (refine ⟨⟨by omega, by omega⟩, ?_⟩; (conv => whnf))))
  cases z with
  | false =>
    rw [if_neg (by decide)] at hE' hM
    subst hE' hM
    ((conv => whnf); repeat (first | (apply load_at; (conv => lhs; whnf); (with_reducible assumption); rfl; (conv => whnf)) | (apply load_at; (conv => lhs; rw [add_plain, add_plain]); (with_reducible assumption); rfl; (conv => whnf)) | (apply loads_at; (conv => lhs; whnf); (with_reducible assumption); rfl; (conv => whnf)) | (refine ⟨⟨by omega, by omega⟩, ?_⟩; (conv => whnf))))
    exact ⟨rfl, D, Moves.ext hE hE04, hD⟩
  | true =>
    rw [if_pos rfl] at hE' hM
    subst hE' hM
    ((conv => whnf); repeat (first | (apply load_at; (conv => lhs; whnf); (with_reducible assumption); rfl; (conv => whnf)) | (apply load_at; (conv => lhs; rw [add_plain, add_plain]); (with_reducible assumption); rfl; (conv => whnf)) | (apply loads_at; (conv => lhs; whnf); (with_reducible assumption); rfl; (conv => whnf)) | (refine ⟨⟨by omega, by omega⟩, ?_⟩; (conv => whnf))))
    refine new_step (.cells (rowS pcC [⟨0, nb, A, c⟩]).toArray 149) rfl fun g h0_g => ?_
    have hE_g := Ext.new h0_g (.cells (rowS pcC [⟨0, nb, A, c⟩]).toArray 149)
    have hB_g := Heap.put_same F4 g (.cells (rowS pcC [⟨0, nb, A, c⟩]).toArray 149)
    generalize F4.put g _ = F5 at hE_g hB_g ⊢
    have hr5 := hr4.mono hE_g
    have hE05 := hE04.trans hE_g
    have hg0 : F g = none := hE04.none h0_g
    refine call_of (redoWrite (hE.trans hE05) hD (newH_ext F F5) (newH_apart F5 hE) [⟨0, nb, A, c⟩] (some ⟨g, 0, none⟩) 1 (new_row hB_g hg0) (fun p hp => ?_) (Nat.le_of_ble_eq_true rfl) hw) ?_
    · rw [List.mem_singleton] at hp
      subst hp
      exact ⟨newH_row hr5 hf0, hnl⟩
    rintro v F6 ⟨rfl, D', hM6, hD6⟩
    ((conv => whnf); repeat (first | (apply load_at; (conv => lhs; whnf); (with_reducible assumption); rfl; (conv => whnf)) | (apply load_at; (conv => lhs; rw [add_plain, add_plain]); (with_reducible assumption); rfl; (conv => whnf)) | (apply loads_at; (conv => lhs; whnf); (with_reducible assumption); rfl; (conv => whnf)) | (refine ⟨⟨by omega, by omega⟩, ?_⟩; (conv => whnf))))
    exact ⟨rfl, D', (Moves.ext hE hE05).trans hM6, hD6⟩
theorem redoFormat {D F : Heap} {b : Nat} {s : DS} (hE : Ext D F) (hD : Dk D b s) (hN : NibAt F) (hw : s.writes + 1 < 1000000000) :
    FnK Tryd.prog 22 #[.pointer (some ⟨b, 0, none⟩)] F (fun v F' => v = .int .i64 (runW dsO s [(0, noteB 0 1)]).2 ∧ ∃ D', Moves D F D' F' ∧ Dk D' b (runW dsO s [(0, noteB 0 1)]).1) := by
  have h1 := redoMark hE hD 0 1 hN hw
  have e : markS dsO s 0 1 = runW dsO s [(0, noteB 0 1)] := if_pos (by decide)
  rw [e] at h1
  generalize runW dsO s [(0, noteB 0 1)] = ms at h1
  (refine fn_walk tab_ok Tryd.func22 rfl rfl rfl rfl ?_; (conv => whnf))
  refine call_of h1 ?_
  rintro v F1 ⟨rfl, D', hM, hD'⟩
  ((conv => whnf); repeat (first | (apply load_at; (conv => lhs; whnf); (with_reducible assumption); rfl; (conv => whnf)) | (apply load_at; (conv => lhs; rw [add_plain, add_plain]); (with_reducible assumption); rfl; (conv => whnf)) | (apply loads_at; (conv => lhs; whnf); (with_reducible assumption); rfl; (conv => whnf)) | (refine ⟨⟨by omega, by omega⟩, ?_⟩; (conv => whnf))))
  exact ⟨rfl, D', hM, hD'⟩
/-- What stands at the mark of a disk. -/
def rdN {α : Type} (o : DOps α) (a : α) : Int × Int × Int := if o.rdE a 0 = 0 then (unP (o.rdL a 0), unQ (o.rdL a 0), unE (o.rdL a 0)) else (0, 0, o.rdE a 0)
theorem redoRead {D F : Heap} {b : Nat} {s : DS} (hE : Ext D F) (hD : Dk D b s) (hN : NibAt F) :
    FnK Tryd.prog 62 #[.pointer (some ⟨b, 0, none⟩)] F (fun v F' => v = .tuple #[.agg #[.int .i64 (rdN dsO s).1, .int .i64 (rdN dsO s).2.1], .int .i64 (rdN dsO s).2.2] ∧ Ext F F') := by
  have h1 := fun F hE => read (F := F) hE hD 0
  have hl := read_len hD 0
  have h2 := fun A c F hr hc hN => unpack (readL s 0) A c F hr (by omega) hc hN
  have h3 := fun F => markI F
  have hR : rdN dsO s = if readE s 0 = 0 then (unP (readL s 0), unQ (readL s 0), unE (readL s 0)) else (0, 0, readE s 0) := rfl
  generalize rdN dsO s = rn at hR
  generalize unP (readL s 0) = p at h2 hR
  generalize unQ (readL s 0) = q at h2 hR
  generalize unE (readL s 0) = e at h2 hR
  generalize unD (readL s 0) = d at h2
  generalize readL s 0 = l at h1 h2
  generalize readE s 0 = re at h1 hR
  (refine fn_walk tab_ok Tryd.func62 rfl rfl rfl rfl ?_; (conv => whnf))
  refine new_step (.cells #[.int .i64 0, .int .i64 0] 108) rfl fun t h0_t => ?_
  have hE_t := Ext.new h0_t (.cells #[.int .i64 0, .int .i64 0] 108)
  have hB_t := Heap.put_same F t (.cells #[.int .i64 0, .int .i64 0] 108)
  generalize F.put t _ = F1 at hE_t hB_t ⊢
  ((conv => whnf); repeat (first | (apply load_at; (conv => lhs; whnf); (with_reducible assumption); rfl; (conv => whnf)) | (apply load_at; (conv => lhs; rw [add_plain, add_plain]); (with_reducible assumption); rfl; (conv => whnf)) | (apply loads_at; (conv => lhs; whnf); (with_reducible assumption); rfl; (conv => whnf)) | (refine ⟨⟨by omega, by omega⟩, ?_⟩; (conv => whnf))))
  refine call_of (h3 F1) ?_
  rintro v F1 ⟨rfl, rfl⟩
  ((conv => whnf); repeat (first | (apply load_at; (conv => lhs; whnf); (with_reducible assumption); rfl; (conv => whnf)) | (apply load_at; (conv => lhs; rw [add_plain, add_plain]); (with_reducible assumption); rfl; (conv => whnf)) | (apply loads_at; (conv => lhs; whnf); (with_reducible assumption); rfl; (conv => whnf)) | (refine ⟨⟨by omega, by omega⟩, ?_⟩; (conv => whnf))))
  refine call_of (h1 F1 (hE.trans hE_t)) ?_
  rintro v F2 ⟨u, rfl, ⟨A, c, rfl, hc, hr, hf⟩, hE2⟩
  have hE02 := hE_t.trans hE2
  have hB2 := hE2 _ _ hB_t
  have h0t : F t = none := h0_t
  refine short [2, 12] [.pointer (some ⟨t, 0, none⟩), .tuple #[.slice A l.length c, .int .i64 re]] rfl fun ρ => ?_
  ((conv => whnf); repeat (first | (apply load_at; (conv => lhs; whnf); (with_reducible assumption); rfl; (conv => whnf)) | (apply load_at; (conv => lhs; rw [add_plain, add_plain]); (with_reducible assumption); rfl; (conv => whnf)) | (apply loads_at; (conv => lhs; whnf); (with_reducible assumption); rfl; (conv => whnf)) | (refine ⟨⟨by omega, by omega⟩, ?_⟩; (conv => whnf))))
  refine cond_split (fun h => ?_) (fun h => ?_)
  · have he : ¬ re = 0 := by
      have h : (re != 0) = true := h
      simpa using h
    rw [if_neg he] at hR
    subst hR
    ((conv => whnf); repeat (first | (apply load_at; (conv => lhs; whnf); (with_reducible assumption); rfl; (conv => whnf)) | (apply load_at; (conv => lhs; rw [add_plain, add_plain]); (with_reducible assumption); rfl; (conv => whnf)) | (apply loads_at; (conv => lhs; whnf); (with_reducible assumption); rfl; (conv => whnf)) | (refine ⟨⟨by omega, by omega⟩, ?_⟩; (conv => whnf))))
    refine store_step t 0 _ #[.int .i64 0, .int .i64 0] rfl hB2 rfl rfl (.inl (Nat.le_refl 0)) (two_ints _ _) ?_
    have hB3 := Heap.put_same F2 t (.cells #[.int .i64 0, .int .i64 0] 108)
    have hE3 : Ext F (F2.put t (.cells #[.int .i64 0, .int .i64 0] 108)) := hE02.put h0t _
    generalize F2.put t _ = F3 at hB3 hE3 ⊢
    ((conv => whnf); repeat (first | (apply load_at; (conv => lhs; whnf); (with_reducible assumption); rfl; (conv => whnf)) | (apply load_at; (conv => lhs; rw [add_plain, add_plain]); (with_reducible assumption); rfl; (conv => whnf)) | (apply loads_at; (conv => lhs; whnf); (with_reducible assumption); rfl; (conv => whnf)) | (refine ⟨⟨by omega, by omega⟩, ?_⟩; (conv => whnf))))
    refine res_cells tab_ok rfl rfl hB3 rfl ?_
    ((conv => whnf); repeat (first | (apply load_at; (conv => lhs; whnf); (with_reducible assumption); rfl; (conv => whnf)) | (apply load_at; (conv => lhs; rw [add_plain, add_plain]); (with_reducible assumption); rfl; (conv => whnf)) | (apply loads_at; (conv => lhs; whnf); (with_reducible assumption); rfl; (conv => whnf)) | (refine ⟨⟨by omega, by omega⟩, ?_⟩; (conv => whnf))))
    exact ⟨rfl, hE3⟩
  · have he : re = 0 := by
      have h : (re != 0) = false := h
      simpa using h
    rw [if_pos he] at hR
    subst hR
    ((conv => whnf); repeat (first | (apply load_at; (conv => lhs; whnf); (with_reducible assumption); rfl; (conv => whnf)) | (apply load_at; (conv => lhs; rw [add_plain, add_plain]); (with_reducible assumption); rfl; (conv => whnf)) | (apply loads_at; (conv => lhs; whnf); (with_reducible assumption); rfl; (conv => whnf)) | (refine ⟨⟨by omega, by omega⟩, ?_⟩; (conv => whnf))))
    refine call_of (h2 A c F2 hr hc (hN.mono hE02)) ?_
    rintro v F3 ⟨w, rfl, _, hE3⟩
    have hE03 := hE02.trans hE3
    have hB3 := hE3 _ _ hB2
    ((conv => whnf); repeat (first | (apply load_at; (conv => lhs; whnf); (with_reducible assumption); rfl; (conv => whnf)) | (apply load_at; (conv => lhs; rw [add_plain, add_plain]); (with_reducible assumption); rfl; (conv => whnf)) | (apply loads_at; (conv => lhs; whnf); (with_reducible assumption); rfl; (conv => whnf)) | (refine ⟨⟨by omega, by omega⟩, ?_⟩; (conv => whnf))))
    refine store_step t 0 _ #[.int .i64 p, .int .i64 q] rfl hB3 rfl rfl (.inl (Nat.le_refl 0)) (two_ints _ _) ?_
    have hB4 := Heap.put_same F3 t (.cells #[.int .i64 p, .int .i64 q] 108)
    have hE4 : Ext F (F3.put t (.cells #[.int .i64 p, .int .i64 q] 108)) := hE03.put h0t _
    generalize F3.put t _ = F4 at hB4 hE4 ⊢
    ((conv => whnf); repeat (first | (apply load_at; (conv => lhs; whnf); (with_reducible assumption); rfl; (conv => whnf)) | (apply load_at; (conv => lhs; rw [add_plain, add_plain]); (with_reducible assumption); rfl; (conv => whnf)) | (apply loads_at; (conv => lhs; whnf); (with_reducible assumption); rfl; (conv => whnf)) | (refine ⟨⟨by omega, by omega⟩, ?_⟩; (conv => whnf))))
    refine res_cells tab_ok rfl rfl hB4 rfl ?_
    ((conv => whnf); repeat (first | (apply load_at; (conv => lhs; whnf); (with_reducible assumption); rfl; (conv => whnf)) | (apply load_at; (conv => lhs; rw [add_plain, add_plain]); (with_reducible assumption); rfl; (conv => whnf)) | (apply loads_at; (conv => lhs; whnf); (with_reducible assumption); rfl; (conv => whnf)) | (refine ⟨⟨by omega, by omega⟩, ?_⟩; (conv => whnf))))
    exact ⟨rfl, hE4⟩
end Go.Proofs.YtmpiggcooboenaaDoor.Al
/- Logs: redo.slot, redo.whole. -/
namespace Go.Proofs.YtmpiggcooboenaaDoor.Al
open Go Go.Al Go.Proofs Go.RowKit
set_option maxHeartbeats 8000000
set_option maxRecDepth 100000
set_option linter.unusedVariables false
set_option linter.unusedSimpArgs false
/-- Whether a slot is one of a note's. -/
def slotY {α : Type} (o : DOps α) (a : α) (q i : Int) : Bool := isPg (o.sz a) i && ((o.rdE a (slotI (o.sz a) i) == 0) && ((unE (o.rdL a (slotI (o.sz a) i)) == 0) && ((unQ (o.rdL a (slotI (o.sz a) i)) == q) && isPg (o.sz a) (unP (o.rdL a (slotI (o.sz a) i))))))
def slotP {α : Type} (o : DOps α) (a : α) (i : Int) : Int × List UInt8 := (homeI (o.sz a) (unP (o.rdL a (slotI (o.sz a) i))), o.rdL a (slotI (o.sz a) i))
theorem redoSlot {D F : Heap} {b : Nat} {s : DS} (hE : Ext D F) (hD : Dk D b s) (hN : NibAt F) (n q i : Int) :
    FnK Tryd.prog 103 #[.pointer (some ⟨b, 0, none⟩), .agg #[.int .i64 n, .int .i64 q], .int .i64 i] F (fun v F' => (∃ p : PcR, v = .tuple #[.agg (pcC p).toArray, .bool (slotY dsO s q i)] ∧ PcOk F' p ∧ (∀ a, p.A = some a → F a.block = none) ∧ (slotY dsO s q i = true → pcW p = slotP dsO s i ∧ p.l.length ≤ p.c)) ∧ Ext F F') := by
  have hwf := hD.1
  have hsz := hwf.sz
  have k1 := fun F hE => dk_size (F := F) hE hD
  have k2 := fun F => slot s.size i F
  have k3 := fun F hE => read (F := F) hE hD (slotI s.size i)
  have hl := read_len hD (slotI s.size i)
  have k4 := fun A c F hr hc hN => unpack (readL s (slotI s.size i)) A c F hr (by omega) hc hN
  have k5 := fun F => home s.size (unP (readL s (slotI s.size i))) F
  have hY : slotY dsO s q i = (isPg s.size i && ((readE s (slotI s.size i) == 0) && ((unE (readL s (slotI s.size i)) == 0) && ((unQ (readL s (slotI s.size i)) == q) && isPg s.size (unP (readL s (slotI s.size i))))))) := rfl
  have hP : slotP dsO s i = (homeI s.size (unP (readL s (slotI s.size i))), readL s (slotI s.size i)) := rfl
  generalize slotY dsO s q i = y at hY
  generalize slotP dsO s i = sp at hP
  generalize slotI s.size i = at_ at k2 k3 hl k4 k5 hY hP
  generalize isPg s.size (unP (readL s at_)) = z2 at k5 hY
  generalize homeI s.size (unP (readL s at_)) = hm at k5 hP
  generalize unP (readL s at_) = up at k4 k5
  generalize unQ (readL s at_) = uq at k4 hY
  generalize unE (readL s at_) = ue at k4 hY
  generalize unD (readL s at_) = ud at k4
  generalize readL s at_ = l at k3 k4 hl hP
  generalize readE s at_ = re at k3 hY
  generalize isPg s.size i = z1 at k2 hY
  (refine fn_walk tab_ok Tryd.func103 rfl rfl rfl rfl ?_; (conv => whnf))
  refine new_step (.cells #[.int .i64 n, .int .i64 q] 108) rfl fun t h0_t => ?_
  have hE_t := Ext.new h0_t (.cells #[.int .i64 n, .int .i64 q] 108)
  have hB_t := Heap.put_same F t (.cells #[.int .i64 n, .int .i64 q] 108)
  generalize F.put t _ = F1 at hE_t hB_t ⊢
  ((conv => whnf); repeat (first | (apply load_at; (conv => lhs; whnf); (with_reducible assumption); rfl; (conv => whnf)) | (apply load_at; (conv => lhs; rw [add_plain, add_plain]); (with_reducible assumption); rfl; (conv => whnf)) | (apply loads_at; (conv => lhs; whnf); (with_reducible assumption); rfl; (conv => whnf)) | (refine ⟨⟨by omega, by omega⟩, ?_⟩; (conv => whnf))))
  refine new_step (.cells #[.int .i64 0, .slice none 0 0] 149) rfl fun u h0_u => ?_
  have hE_u := Ext.new h0_u (.cells #[.int .i64 0, .slice none 0 0] 149)
  have hB_u := Heap.put_same F1 u (.cells #[.int .i64 0, .slice none 0 0] 149)
  generalize F1.put u _ = F2 at hE_u hB_u ⊢
  have hB2 := hE_u _ _ hB_t
  have hE2 := hE_t.trans hE_u
  have h0u : F u = none := hE_t.none h0_u
  ((conv => whnf); repeat (first | (apply load_at; (conv => lhs; whnf); (with_reducible assumption); rfl; (conv => whnf)) | (apply load_at; (conv => lhs; rw [add_plain, add_plain]); (with_reducible assumption); rfl; (conv => whnf)) | (apply loads_at; (conv => lhs; whnf); (with_reducible assumption); rfl; (conv => whnf)) | (refine ⟨⟨by omega, by omega⟩, ?_⟩; (conv => whnf))))
  refine call_of (k1 F2 (hE.trans hE2)) ?_
  rintro v F2 ⟨rfl, rfl⟩
  ((conv => whnf); repeat (first | (apply load_at; (conv => lhs; whnf); (with_reducible assumption); rfl; (conv => whnf)) | (apply load_at; (conv => lhs; rw [add_plain, add_plain]); (with_reducible assumption); rfl; (conv => whnf)) | (apply loads_at; (conv => lhs; whnf); (with_reducible assumption); rfl; (conv => whnf)) | (refine ⟨⟨by omega, by omega⟩, ?_⟩; (conv => whnf))))
  refine call_of (k2 F2) ?_
  rintro v F3 ⟨rfl, hE3⟩
  have hE03 := hE2.trans hE3
  have hBt3 := hE3 _ _ hB2
  have hBu3 := hE3 _ _ hB_u
  have bad : ∀ F', Ext F F' → F' u = some (pcO ⟨0, [], none, 0⟩) → True := fun _ _ _ => trivial
  cases z1 with
  | false =>
    obtain rfl : y = false := hY
    ((conv => whnf); repeat (first | (apply load_at; (conv => lhs; whnf); (with_reducible assumption); rfl; (conv => whnf)) | (apply load_at; (conv => lhs; rw [add_plain, add_plain]); (with_reducible assumption); rfl; (conv => whnf)) | (apply loads_at; (conv => lhs; whnf); (with_reducible assumption); rfl; (conv => whnf)) | (refine ⟨⟨by omega, by omega⟩, ?_⟩; (conv => whnf))))
    refine store_step u 0 _ (pcC ⟨0, [], none, 0⟩).toArray rfl hBu3 rfl rfl (.inl (Nat.le_refl 0)) (pc_one ⟨0, [], none, 0⟩) ?_
    have hB5 := Heap.put_same F3 u (pcO ⟨0, [], none, 0⟩)
    have hE5 : Ext F (F3.put u (pcO ⟨0, [], none, 0⟩)) := hE03.put h0u _
    generalize F3.put u _ = F5 at hB5 hE5 ⊢
    ((conv => whnf); repeat (first | (apply load_at; (conv => lhs; whnf); (with_reducible assumption); rfl; (conv => whnf)) | (apply load_at; (conv => lhs; rw [add_plain, add_plain]); (with_reducible assumption); rfl; (conv => whnf)) | (apply loads_at; (conv => lhs; whnf); (with_reducible assumption); rfl; (conv => whnf)) | (refine ⟨⟨by omega, by omega⟩, ?_⟩; (conv => whnf))))
    refine res_cells tab_ok rfl rfl hB5 rfl ?_
    ((conv => whnf); repeat (first | (apply load_at; (conv => lhs; whnf); (with_reducible assumption); rfl; (conv => whnf)) | (apply load_at; (conv => lhs; rw [add_plain, add_plain]); (with_reducible assumption); rfl; (conv => whnf)) | (apply loads_at; (conv => lhs; whnf); (with_reducible assumption); rfl; (conv => whnf)) | (refine ⟨⟨by omega, by omega⟩, ?_⟩; (conv => whnf))))
    exact ⟨⟨⟨0, [], none, 0⟩, rfl, ⟨RowAt.nil _ _, Nat.zero_le _⟩, (fun a h => by cases h), (fun h => by cases h)⟩, hE5⟩
  | true =>
  rw [Bool.true_and] at hY
  refine short [0, 4, 6, 21] [.pointer (some ⟨b, 0, none⟩), .pointer (some ⟨t, 0, none⟩), .pointer (some ⟨u, 0, none⟩), .tuple #[.int .i64 at_, .bool true]] rfl fun ρ => ?_
  ((conv => whnf); repeat (first | (apply load_at; (conv => lhs; whnf); (with_reducible assumption); rfl; (conv => whnf)) | (apply load_at; (conv => lhs; rw [add_plain, add_plain]); (with_reducible assumption); rfl; (conv => whnf)) | (apply loads_at; (conv => lhs; whnf); (with_reducible assumption); rfl; (conv => whnf)) | (refine ⟨⟨by omega, by omega⟩, ?_⟩; (conv => whnf))))
  refine call_of (k3 F3 (hE.trans hE03)) ?_
  rintro v F4 ⟨w, rfl, ⟨A, c, rfl, hc, hr, hf⟩, hE4⟩
  have hE04 := hE03.trans hE4
  have hBt4 := hE4 _ _ hBt3
  have hBu4 := hE4 _ _ hBu3
  have hf0 : ∀ a, A = some a → F a.block = none := fun a ha => hE03.none (hf a ha)
  refine short [0, 4, 6, 30] [.pointer (some ⟨b, 0, none⟩), .pointer (some ⟨t, 0, none⟩), .pointer (some ⟨u, 0, none⟩), .tuple #[.slice A l.length c, .int .i64 re]] rfl fun ρ => ?_
  ((conv => whnf); repeat (first | (apply load_at; (conv => lhs; whnf); (with_reducible assumption); rfl; (conv => whnf)) | (apply load_at; (conv => lhs; rw [add_plain, add_plain]); (with_reducible assumption); rfl; (conv => whnf)) | (apply loads_at; (conv => lhs; whnf); (with_reducible assumption); rfl; (conv => whnf)) | (refine ⟨⟨by omega, by omega⟩, ?_⟩; (conv => whnf))))
  refine cond_split (fun h => ?_) (fun h => ?_)
  · have he : (re == 0) = false := by
      have h : (re != 0) = true := h
      simpa using h
    rw [he, Bool.false_and] at hY
    subst hY
    ((conv => whnf); repeat (first | (apply load_at; (conv => lhs; whnf); (with_reducible assumption); rfl; (conv => whnf)) | (apply load_at; (conv => lhs; rw [add_plain, add_plain]); (with_reducible assumption); rfl; (conv => whnf)) | (apply loads_at; (conv => lhs; whnf); (with_reducible assumption); rfl; (conv => whnf)) | (refine ⟨⟨by omega, by omega⟩, ?_⟩; (conv => whnf))))
    refine store_step u 0 _ (pcC ⟨0, [], none, 0⟩).toArray rfl hBu4 rfl rfl (.inl (Nat.le_refl 0)) (pc_one ⟨0, [], none, 0⟩) ?_
    have hB5 := Heap.put_same F4 u (pcO ⟨0, [], none, 0⟩)
    have hE5 : Ext F (F4.put u (pcO ⟨0, [], none, 0⟩)) := hE04.put h0u _
    generalize F4.put u _ = F5 at hB5 hE5 ⊢
    ((conv => whnf); repeat (first | (apply load_at; (conv => lhs; whnf); (with_reducible assumption); rfl; (conv => whnf)) | (apply load_at; (conv => lhs; rw [add_plain, add_plain]); (with_reducible assumption); rfl; (conv => whnf)) | (apply loads_at; (conv => lhs; whnf); (with_reducible assumption); rfl; (conv => whnf)) | (refine ⟨⟨by omega, by omega⟩, ?_⟩; (conv => whnf))))
    refine res_cells tab_ok rfl rfl hB5 rfl ?_
    ((conv => whnf); repeat (first | (apply load_at; (conv => lhs; whnf); (with_reducible assumption); rfl; (conv => whnf)) | (apply load_at; (conv => lhs; rw [add_plain, add_plain]); (with_reducible assumption); rfl; (conv => whnf)) | (apply loads_at; (conv => lhs; whnf); (with_reducible assumption); rfl; (conv => whnf)) | (refine ⟨⟨by omega, by omega⟩, ?_⟩; (conv => whnf))))
    exact ⟨⟨⟨0, [], none, 0⟩, rfl, ⟨RowAt.nil _ _, Nat.zero_le _⟩, (fun a h => by cases h), (fun h => by cases h)⟩, hE5⟩
  have he : (re == 0) = true := by
    have h : (re != 0) = false := h
    simpa using h
  rw [he, Bool.true_and] at hY
  clear h he
  ((conv => whnf); repeat (first | (apply load_at; (conv => lhs; whnf); (with_reducible assumption); rfl; (conv => whnf)) | (apply load_at; (conv => lhs; rw [add_plain, add_plain]); (with_reducible assumption); rfl; (conv => whnf)) | (apply loads_at; (conv => lhs; whnf); (with_reducible assumption); rfl; (conv => whnf)) | (refine ⟨⟨by omega, by omega⟩, ?_⟩; (conv => whnf))))
  refine call_of (k4 A c F4 hr hc (hN.mono hE04)) ?_
  rintro v F5 ⟨w, rfl, _, hE5⟩
  have hE05 := hE04.trans hE5
  have hBt5 := hE5 _ _ hBt4
  have hBu5 := hE5 _ _ hBu4
  have hr5 := hr.mono hE5
  refine short [0, 4, 6, 10, 38] [.pointer (some ⟨b, 0, none⟩), .pointer (some ⟨t, 0, none⟩), .pointer (some ⟨u, 0, none⟩), .slice A l.length c, .tuple #[.int .i64 up, .int .i64 uq, w, .int .i64 ue]] rfl fun ρ => ?_
  ((conv => whnf); repeat (first | (apply load_at; (conv => lhs; whnf); (with_reducible assumption); rfl; (conv => whnf)) | (apply load_at; (conv => lhs; rw [add_plain, add_plain]); (with_reducible assumption); rfl; (conv => whnf)) | (apply loads_at; (conv => lhs; whnf); (with_reducible assumption); rfl; (conv => whnf)) | (refine ⟨⟨by omega, by omega⟩, ?_⟩; (conv => whnf))))
  refine call_of (k1 F5 (hE.trans hE05)) ?_
  rintro v F5 ⟨rfl, rfl⟩
  ((conv => whnf); repeat (first | (apply load_at; (conv => lhs; whnf); (with_reducible assumption); rfl; (conv => whnf)) | (apply load_at; (conv => lhs; rw [add_plain, add_plain]); (with_reducible assumption); rfl; (conv => whnf)) | (apply loads_at; (conv => lhs; whnf); (with_reducible assumption); rfl; (conv => whnf)) | (refine ⟨⟨by omega, by omega⟩, ?_⟩; (conv => whnf))))
  refine call_of (k5 F5) ?_
  rintro v F6 ⟨rfl, hE6⟩
  have hE06 := hE05.trans hE6
  have hBt6 := hE6 _ _ hBt5
  have hBu6 := hE6 _ _ hBu5
  have hr6 := hr5.mono hE6
  refine short [4, 6, 10, 11, 13, 47] [.pointer (some ⟨t, 0, none⟩), .pointer (some ⟨u, 0, none⟩), .slice A l.length c, .int .i64 ue, .int .i64 uq, .tuple #[.int .i64 hm, .bool z2]] rfl fun ρ => ?_
  have hr7 : ∀ o, RowAt (F6.put u o) A (bytesOf l) := fun o => by
    refine rowAt_keepq (q := u) hr6 (fun z o h h' => ?_) fun a ha e => ?_
    · rw [Heap.put_other _ _ (fun e => h' (by rw [e]))]
      exact h
    · have := hf a ha
      rw [e, hBu3] at this
      cases this
  ((conv => whnf); repeat (first | (apply load_at; (conv => lhs; whnf); (with_reducible assumption); rfl; (conv => whnf)) | (apply load_at; (conv => lhs; rw [add_plain, add_plain]); (with_reducible assumption); rfl; (conv => whnf)) | (apply loads_at; (conv => lhs; whnf); (with_reducible assumption); rfl; (conv => whnf)) | (refine ⟨⟨by omega, by omega⟩, ?_⟩; (conv => whnf))))
  refine cond_split (fun h => ?_) (fun h => ?_)
  · have he : (ue == 0) = true := h
    rw [he, Bool.true_and] at hY
    clear h
    rw [he]
    ((conv => whnf); repeat (first | (apply load_at; (conv => lhs; whnf); (with_reducible assumption); rfl; (conv => whnf)) | (apply load_at; (conv => lhs; rw [add_plain, add_plain]); (with_reducible assumption); rfl; (conv => whnf)) | (apply loads_at; (conv => lhs; whnf); (with_reducible assumption); rfl; (conv => whnf)) | (refine ⟨⟨by omega, by omega⟩, ?_⟩; (conv => whnf))))
    refine cond_split (fun h => ?_) (fun h => ?_)
    · have hq : (uq == q) = true := h
      rw [hq, Bool.true_and] at hY
      subst hY
      rw [hq]
      ((conv => whnf); repeat (first | (apply load_at; (conv => lhs; whnf); (with_reducible assumption); rfl; (conv => whnf)) | (apply load_at; (conv => lhs; rw [add_plain, add_plain]); (with_reducible assumption); rfl; (conv => whnf)) | (apply loads_at; (conv => lhs; whnf); (with_reducible assumption); rfl; (conv => whnf)) | (refine ⟨⟨by omega, by omega⟩, ?_⟩; (conv => whnf))))
      refine store_step u 0 _ (pcC ⟨hm, l, A, c⟩).toArray rfl hBu6 rfl rfl (.inl (Nat.le_refl 0)) (pc_one ⟨hm, l, A, c⟩) ?_
      have hB7 := Heap.put_same F6 u (pcO ⟨hm, l, A, c⟩)
      have hE7 : Ext F (F6.put u (pcO ⟨hm, l, A, c⟩)) := hE06.put h0u _
      replace hr7 := hr7 (pcO ⟨hm, l, A, c⟩)
      generalize F6.put u _ = F7 at hB7 hE7 hr7 ⊢
      ((conv => whnf); repeat (first | (apply load_at; (conv => lhs; whnf); (with_reducible assumption); rfl; (conv => whnf)) | (apply load_at; (conv => lhs; rw [add_plain, add_plain]); (with_reducible assumption); rfl; (conv => whnf)) | (apply loads_at; (conv => lhs; whnf); (with_reducible assumption); rfl; (conv => whnf)) | (refine ⟨⟨by omega, by omega⟩, ?_⟩; (conv => whnf))))
      refine res_cells tab_ok rfl rfl hB7 rfl ?_
      ((conv => whnf); repeat (first | (apply load_at; (conv => lhs; whnf); (with_reducible assumption); rfl; (conv => whnf)) | (apply load_at; (conv => lhs; rw [add_plain, add_plain]); (with_reducible assumption); rfl; (conv => whnf)) | (apply loads_at; (conv => lhs; whnf); (with_reducible assumption); rfl; (conv => whnf)) | (refine ⟨⟨by omega, by omega⟩, ?_⟩; (conv => whnf))))
      exact ⟨⟨⟨hm, l, A, c⟩, rfl, ⟨hr7, by show l.length ≤ 900000; omega⟩, hf0, fun _ => ⟨hP.symm, hc⟩⟩, hE7⟩
    · have hq : (uq == q) = false := h
      rw [hq, Bool.false_and] at hY
      subst hY
      rw [hq]
      ((conv => whnf); repeat (first | (apply load_at; (conv => lhs; whnf); (with_reducible assumption); rfl; (conv => whnf)) | (apply load_at; (conv => lhs; rw [add_plain, add_plain]); (with_reducible assumption); rfl; (conv => whnf)) | (apply loads_at; (conv => lhs; whnf); (with_reducible assumption); rfl; (conv => whnf)) | (refine ⟨⟨by omega, by omega⟩, ?_⟩; (conv => whnf))))
      refine store_step u 0 _ (pcC ⟨hm, l, A, c⟩).toArray rfl hBu6 rfl rfl (.inl (Nat.le_refl 0)) (pc_one ⟨hm, l, A, c⟩) ?_
      have hB7 := Heap.put_same F6 u (pcO ⟨hm, l, A, c⟩)
      have hE7 : Ext F (F6.put u (pcO ⟨hm, l, A, c⟩)) := hE06.put h0u _
      replace hr7 := hr7 (pcO ⟨hm, l, A, c⟩)
      generalize F6.put u _ = F7 at hB7 hE7 hr7 ⊢
      ((conv => whnf); repeat (first | (apply load_at; (conv => lhs; whnf); (with_reducible assumption); rfl; (conv => whnf)) | (apply load_at; (conv => lhs; rw [add_plain, add_plain]); (with_reducible assumption); rfl; (conv => whnf)) | (apply loads_at; (conv => lhs; whnf); (with_reducible assumption); rfl; (conv => whnf)) | (refine ⟨⟨by omega, by omega⟩, ?_⟩; (conv => whnf))))
      refine res_cells tab_ok rfl rfl hB7 rfl ?_
      ((conv => whnf); repeat (first | (apply load_at; (conv => lhs; whnf); (with_reducible assumption); rfl; (conv => whnf)) | (apply load_at; (conv => lhs; rw [add_plain, add_plain]); (with_reducible assumption); rfl; (conv => whnf)) | (apply loads_at; (conv => lhs; whnf); (with_reducible assumption); rfl; (conv => whnf)) | (refine ⟨⟨by omega, by omega⟩, ?_⟩; (conv => whnf))))
      exact ⟨⟨⟨hm, l, A, c⟩, rfl, ⟨hr7, by show l.length ≤ 900000; omega⟩, hf0, fun h => by cases h⟩, hE7⟩
  · have he : (ue == 0) = false := h
    rw [he, Bool.false_and] at hY
    subst hY
    rw [he]
    ((conv => whnf); repeat (first | (apply load_at; (conv => lhs; whnf); (with_reducible assumption); rfl; (conv => whnf)) | (apply load_at; (conv => lhs; rw [add_plain, add_plain]); (with_reducible assumption); rfl; (conv => whnf)) | (apply loads_at; (conv => lhs; whnf); (with_reducible assumption); rfl; (conv => whnf)) | (refine ⟨⟨by omega, by omega⟩, ?_⟩; (conv => whnf))))
    refine store_step u 0 _ (pcC ⟨hm, l, A, c⟩).toArray rfl hBu6 rfl rfl (.inl (Nat.le_refl 0)) (pc_one ⟨hm, l, A, c⟩) ?_
    have hB7 := Heap.put_same F6 u (pcO ⟨hm, l, A, c⟩)
    have hE7 : Ext F (F6.put u (pcO ⟨hm, l, A, c⟩)) := hE06.put h0u _
    replace hr7 := hr7 (pcO ⟨hm, l, A, c⟩)
    generalize F6.put u _ = F7 at hB7 hE7 hr7 ⊢
    ((conv => whnf); repeat (first | (apply load_at; (conv => lhs; whnf); (with_reducible assumption); rfl; (conv => whnf)) | (apply load_at; (conv => lhs; rw [add_plain, add_plain]); (with_reducible assumption); rfl; (conv => whnf)) | (apply loads_at; (conv => lhs; whnf); (with_reducible assumption); rfl; (conv => whnf)) | (refine ⟨⟨by omega, by omega⟩, ?_⟩; (conv => whnf))))
    refine res_cells tab_ok rfl rfl hB7 rfl ?_
    ((conv => whnf); repeat (first | (apply load_at; (conv => lhs; whnf); (with_reducible assumption); rfl; (conv => whnf)) | (apply load_at; (conv => lhs; rw [add_plain, add_plain]); (with_reducible assumption); rfl; (conv => whnf)) | (apply loads_at; (conv => lhs; whnf); (with_reducible assumption); rfl; (conv => whnf)) | (refine ⟨⟨by omega, by omega⟩, ?_⟩; (conv => whnf))))
    exact ⟨⟨⟨hm, l, A, c⟩, rfl, ⟨hr7, by show l.length ≤ 900000; omega⟩, hf0, fun h => by cases h⟩, hE7⟩
end Go.Proofs.YtmpiggcooboenaaDoor.Al
/- Logs: redo.whole. -/
namespace Go.Proofs.YtmpiggcooboenaaDoor.Al
open Go Go.Al Go.Proofs Go.RowKit
set_option maxHeartbeats 8000000
set_option maxRecDepth 100000
set_option linter.unusedVariables false
set_option linter.unusedSimpArgs false
def whl {α : Type} (o : DOps α) (a : α) (q : Int) : Nat → Nat → Option (List (Int × List UInt8))
  | 0, _ => some []
  | k + 1, i => if slotY o a q (i : Int) = true then (whl o a q k (i + 1)).map (slotP o a (i : Int) :: ·) else none
def wholeO {α : Type} (o : DOps α) (a : α) (n q : Int) : Option (List (Int × List UInt8)) := if n > pagesN (o.sz a) then none else whl o a q n.toNat 0
theorem whl_len {α : Type} (o : DOps α) (a : α) (q : Int) : ∀ (k i : Nat) (ws : List (Int × List UInt8)), whl o a q k i = some ws → ws.length = k
  | 0, i, ws, h => by cases h; rfl
  | k + 1, i, ws, h => by
    unfold whl at h
    split at h
    · cases e : whl o a q k (i + 1) with
      | none => rw [e] at h; cases h
      | some us =>
        rw [e] at h
        cases h
        rw [List.length_cons, whl_len o a q k (i + 1) us e]
    · cases h
theorem wholeO_len {α : Type} {o : DOps α} {a : α} {n q : Int} {ws : List (Int × List UInt8)} (h : wholeO o a n q = some ws) : ws.length = n.toNat ∧ n ≤ pagesN (o.sz a) := by
  unfold wholeO at h
  split at h
  · cases h
  · exact ⟨whl_len o a q _ _ ws h, by omega⟩
/-- Pieces that lie apart of a row. -/
structure PcsK (F F1 : Heap) (S : Value) (ps : List PcR) (G : Heap) : Prop where
  base : Ext G F1
  out : ∀ k, blk S = some k → G k = none
  ok : ∀ p ∈ ps, PcOk G p
  new : ∀ p ∈ ps, ∀ a, p.A = some a → F a.block = none
theorem redoWhole {D F : Heap} {b : Nat} {s : DS} (hE : Ext D F) (hD : Dk D b s) (hN : NibAt F) (n q : Int) (hn : 0 ≤ n) :
    FnK Tryd.prog 63 #[.pointer (some ⟨b, 0, none⟩), .agg #[.int .i64 n, .int .i64 q]] F (fun v F' => (∃ (ps : List PcR) (A : Option Addr) (c : Nat), v = .tuple #[.slice A ps.length c, .bool (wholeO dsO s n q).isSome] ∧ RowAt F' A (rowS pcC ps) ∧ (∀ a, A = some a → F a.block = none) ∧ (∀ p ∈ ps, PcOk F' p ∧ ∀ a, p.A = some a → F a.block = none) ∧ ((wholeO dsO s n q).isSome = true → wholeO dsO s n q = some (ps.map pcW))) ∧ Ext F F') := by
  have hwf := hD.1
  have hsz := hwf.sz
  have k1 := fun F hE => dk_size (F := F) hE hD
  have k2 := fun F => pages s.size F
  have hle := pagesN_le s.size
  have k3 := fun F hE hN i => redoSlot (F := F) hE hD hN n q i
  have hW : wholeO dsO s n q = if n > pagesN s.size then none else whl dsO s q n.toNat 0 := rfl
  have hrec : ∀ k i : Nat, whl dsO s q (k + 1) i = if slotY dsO s q (i : Int) = true then (whl dsO s q k (i + 1)).map (slotP dsO s (i : Int) :: ·) else none := fun _ _ => rfl
  have h0 : ∀ i, whl dsO s q 0 i = some [] := fun _ => rfl
  generalize wholeO dsO s n q = w at hW
  generalize whl dsO s q = wh at hW hrec h0
  generalize slotY dsO s q = sy at k3 hrec
  generalize slotP dsO s = sp at k3 hrec
  generalize pagesN s.size = pn at k2 hle hW
  (refine fn_walk tab_ok Tryd.func63 rfl rfl rfl rfl ?_; (conv => whnf))
  refine new_step (.cells #[.int .i64 n, .int .i64 q] 108) rfl fun t h0_t => ?_
  have hE_t := Ext.new h0_t (.cells #[.int .i64 n, .int .i64 q] 108)
  have hB_t := Heap.put_same F t (.cells #[.int .i64 n, .int .i64 q] 108)
  generalize F.put t _ = F1 at hE_t hB_t ⊢
  ((conv => whnf); repeat (first | (apply load_at; (conv => lhs; whnf); (with_reducible assumption); rfl; (conv => whnf)) | (apply load_at; (conv => lhs; rw [add_plain, add_plain]); (with_reducible assumption); rfl; (conv => whnf)) | (apply loads_at; (conv => lhs; whnf); (with_reducible assumption); rfl; (conv => whnf)) | (refine ⟨⟨by omega, by omega⟩, ?_⟩; (conv => whnf))))
  refine draw_walk tab_ok (by kernel_rfl) [0, 1, 2, 3, 4, 5] (by kernel_rfl) ?_
  ((conv => whnf); repeat (first | (apply load_at; (conv => lhs; whnf); (with_reducible assumption); rfl; (conv => whnf)) | (apply load_at; (conv => lhs; rw [add_plain, add_plain]); (with_reducible assumption); rfl; (conv => whnf)) | (apply loads_at; (conv => lhs; whnf); (with_reducible assumption); rfl; (conv => whnf)) | (refine ⟨⟨by omega, by omega⟩, ?_⟩; (conv => whnf))))
  refine call_of (k1 F1 (hE.trans hE_t)) ?_
  rintro v F1 ⟨rfl, rfl⟩
  refine ⟨Ext.refl _, ?_⟩
  ((conv => whnf); repeat (first | (apply load_at; (conv => lhs; whnf); (with_reducible assumption); rfl; (conv => whnf)) | (apply load_at; (conv => lhs; rw [add_plain, add_plain]); (with_reducible assumption); rfl; (conv => whnf)) | (apply loads_at; (conv => lhs; whnf); (with_reducible assumption); rfl; (conv => whnf)) | (refine ⟨⟨by omega, by omega⟩, ?_⟩; (conv => whnf))))
  refine call_of (k2 F1) ?_
  rintro v F1 ⟨rfl, rfl⟩
  refine ⟨Ext.refl _, ?_⟩
  ((conv => whnf); repeat (first | (apply load_at; (conv => lhs; whnf); (with_reducible assumption); rfl; (conv => whnf)) | (apply load_at; (conv => lhs; rw [add_plain, add_plain]); (with_reducible assumption); rfl; (conv => whnf)) | (apply loads_at; (conv => lhs; whnf); (with_reducible assumption); rfl; (conv => whnf)) | (refine ⟨⟨by omega, by omega⟩, ?_⟩; (conv => whnf))))
  refine cond_split (fun h => ?_) (fun h => ?_)
  · have hg : n > pn := of_decide_eq_true (show decide (n > pn) = true from h)
    rw [if_pos hg] at hW
    subst hW
    ((conv => whnf); repeat (first | (apply load_at; (conv => lhs; whnf); (with_reducible assumption); rfl; (conv => whnf)) | (apply load_at; (conv => lhs; rw [add_plain, add_plain]); (with_reducible assumption); rfl; (conv => whnf)) | (apply loads_at; (conv => lhs; whnf); (with_reducible assumption); rfl; (conv => whnf)) | (refine ⟨⟨by omega, by omega⟩, ?_⟩; (conv => whnf))))
    exact ⟨⟨[], none, 0, rfl, RowAt.nil _ _, (fun a h => by cases h), (fun p h => by cases h), fun h => by cases h⟩, hE_t⟩
  have hg : ¬ n > pn := of_decide_eq_false (show decide (n > pn) = false from h)
  rw [if_neg hg] at hW
  obtain ⟨m, rfl⟩ : ∃ m : Nat, n = (m : Int) := ⟨n.toNat, by omega⟩
  rw [Int.toNat_natCast] at hW
  clear h
  ((conv => whnf); repeat (first | (apply load_at; (conv => lhs; whnf); (with_reducible assumption); rfl; (conv => whnf)) | (apply load_at; (conv => lhs; rw [add_plain, add_plain]); (with_reducible assumption); rfl; (conv => whnf)) | (apply loads_at; (conv => lhs; whnf); (with_reducible assumption); rfl; (conv => whnf)) | (refine ⟨⟨by omega, by omega⟩, ?_⟩; (conv => whnf))))
  refine short [0, 3, 6, 17, 18] [.pointer (some ⟨b, 0, none⟩), .pointer (some ⟨t, 0, none⟩), .slice none 0 0, .int .i64 (m : Int), .int .i64 0] rfl fun ρ => ?_
  refine loop_slots [0, 3, 6, 17, 18] (fun k vs F' => ∃ (i : Nat) (S : Value) (ps : List PcR) (G : Heap), i + k = m ∧ ps.length = i ∧ vs = [.pointer (some ⟨b, 0, none⟩), .pointer (some ⟨t, 0, none⟩), S, .int .i64 (m : Int), .int .i64 (i : Int)] ∧ Mine F F' S 149 2 ps.length (rowS pcC ps) ∧ PcsK F F' S ps G ∧ G t = some (.cells #[.int .i64 (m : Int), .int .i64 q] 108) ∧ w = (wh k i).map (ps.map pcW ++ ·)) m ⟨0, .slice none 0 0, [], F1, by omega, rfl, rfl, Mine.nil _ _ _ _ hE_t, ⟨Ext.refl _, (fun k h => by cases h), (fun p h => by cases h), fun p h => by cases h⟩, hB_t, by rw [hW]; cases wh m 0 <;> rfl⟩ ?_
  rintro k vs F2 ρ ⟨i, S, ps, G, hik, hpi, rfl, hM, hP, hGt, hw⟩
  have hBt := hP.base _ _ hGt
  ((conv => whnf); repeat (first | (apply load_at; (conv => lhs; whnf); (with_reducible assumption); rfl; (conv => whnf)) | (apply load_at; (conv => lhs; rw [add_plain, add_plain]); (with_reducible assumption); rfl; (conv => whnf)) | (apply loads_at; (conv => lhs; whnf); (with_reducible assumption); rfl; (conv => whnf)) | (refine ⟨⟨by omega, by omega⟩, ?_⟩; (conv => whnf))))
  refine cond_split (fun h => ?_) (fun h => ?_)
  · have hi : i < m := by
      have h : decide ((i : Int) < (m : Int)) = true := h
      have := of_decide_eq_true h
      omega
    obtain ⟨k', rfl⟩ : ∃ k', k = k' + 1 := ⟨k - 1, by omega⟩
    rw [hrec] at hw
    ((conv => whnf); repeat (first | (apply load_at; (conv => lhs; whnf); (with_reducible assumption); rfl; (conv => whnf)) | (apply load_at; (conv => lhs; rw [add_plain, add_plain]); (with_reducible assumption); rfl; (conv => whnf)) | (apply loads_at; (conv => lhs; whnf); (with_reducible assumption); rfl; (conv => whnf)) | (refine ⟨⟨by omega, by omega⟩, ?_⟩; (conv => whnf))))
    refine call_of (k3 F2 (hE.trans hM.ext) (hN.mono hM.ext) (i : Int)) ?_
    rintro v F3 ⟨⟨p, rfl, hpk, hpf, hpy⟩, hE3⟩
    have hBt3 := hE3 _ _ hBt
    have hM3 := hM.mono hE3
    ((conv => whnf); repeat (first | (apply load_at; (conv => lhs; whnf); (with_reducible assumption); rfl; (conv => whnf)) | (apply load_at; (conv => lhs; rw [add_plain, add_plain]); (with_reducible assumption); rfl; (conv => whnf)) | (apply loads_at; (conv => lhs; whnf); (with_reducible assumption); rfl; (conv => whnf)) | (refine ⟨⟨by omega, by omega⟩, ?_⟩; (conv => whnf))))
    refine new_step (.cells #[.int .i64 0, .slice none 0 0] 149) rfl fun u h0_u => ?_
    have hE_u := Ext.new h0_u (.cells #[.int .i64 0, .slice none 0 0] 149)
    have hB_u := Heap.put_same F3 u (.cells #[.int .i64 0, .slice none 0 0] 149)
    generalize F3.put u _ = F4 at hE_u hB_u ⊢
    ((conv => whnf); repeat (first | (apply load_at; (conv => lhs; whnf); (with_reducible assumption); rfl; (conv => whnf)) | (apply load_at; (conv => lhs; rw [add_plain, add_plain]); (with_reducible assumption); rfl; (conv => whnf)) | (apply loads_at; (conv => lhs; whnf); (with_reducible assumption); rfl; (conv => whnf)) | (refine ⟨⟨by omega, by omega⟩, ?_⟩; (conv => whnf))))
    refine store_step u 0 _ (pcC p).toArray rfl hB_u rfl rfl (.inl (Nat.le_refl 0)) (pc_one p) ?_
    have hB5 := Heap.put_same F4 u (pcO p)
    have hE5 : Ext F3 (F4.put u (pcO p)) := hE_u.put h0_u _
    generalize F4.put u _ = F5 at hB5 hE5 ⊢
    have hBt5 := hE5 _ _ hBt3
    have hM5 := hM3.mono hE5
    refine short [0, 3, 6, 8, 17, 18, 27] [.pointer (some ⟨b, 0, none⟩), .pointer (some ⟨t, 0, none⟩), S, .pointer (some ⟨u, 0, none⟩), .int .i64 (m : Int), .int .i64 (i : Int), .bool (sy (i : Int))] rfl fun ρ => ?_
    cases hy : sy (i : Int) with
    | false =>
      rw [hy, if_neg (by decide)] at hw
      obtain rfl : w = none := hw
      ((conv => whnf); repeat (first | (apply load_at; (conv => lhs; whnf); (with_reducible assumption); rfl; (conv => whnf)) | (apply load_at; (conv => lhs; rw [add_plain, add_plain]); (with_reducible assumption); rfl; (conv => whnf)) | (apply loads_at; (conv => lhs; whnf); (with_reducible assumption); rfl; (conv => whnf)) | (refine ⟨⟨by omega, by omega⟩, ?_⟩; (conv => whnf))))
      exact ⟨⟨[], none, 0, rfl, RowAt.nil _ _, (fun a h => by cases h), (fun p h => by cases h), fun h => by cases h⟩, hM5.ext⟩
    | true =>
      rw [hy] at hpy
      obtain ⟨hpw, hpc⟩ := hpy rfl
      rw [hy, if_pos rfl, ← hpw] at hw
      ((conv => whnf); repeat (first | (apply load_at; (conv => lhs; whnf); (with_reducible assumption); rfl; (conv => whnf)) | (apply load_at; (conv => lhs; rw [add_plain, add_plain]); (with_reducible assumption); rfl; (conv => whnf)) | (apply loads_at; (conv => lhs; whnf); (with_reducible assumption); rfl; (conv => whnf)) | (refine ⟨⟨by omega, by omega⟩, ?_⟩; (conv => whnf))))
      refine new_step (.cells (rowS pcC [p]).toArray 149) rfl fun g h0_g => ?_
      have hE_g := Ext.new h0_g (.cells (rowS pcC [p]).toArray 149)
      have hB_g := Heap.put_same F5 g (.cells (rowS pcC [p]).toArray 149)
      generalize F5.put g _ = F6 at hE_g hB_g ⊢
      have hM6 := hM5.mono hE_g
      have hrow := row_blk hB_g
      rw [List.toList_toArray] at hrow
      have hE26 := hE3.trans (hE5.trans hE_g)
      ((conv => whnf); repeat (first | (apply load_at; (conv => lhs; whnf); (with_reducible assumption); rfl; (conv => whnf)) | (apply load_at; (conv => lhs; rw [add_plain, add_plain]); (with_reducible assumption); rfl; (conv => whnf)) | (apply loads_at; (conv => lhs; whnf); (with_reducible assumption); rfl; (conv => whnf)) | (refine ⟨⟨by omega, by omega⟩, ?_⟩; (conv => whnf))))
      refine append_own tab_ok (s := S) (n := ps.length) (xs := rowS pcC ps) (m := 1) (ys := rowS pcC [p]) (y := .slice (some ⟨g, 0, none⟩) 1 1) rfl rfl rfl rfl rfl ⟨_, rfl, fun k h => by cases h⟩ ⟨_, rfl, rfl⟩ (by decide) hM6.own ⟨rfl, .inl ⟨_, _, rfl, hrow⟩⟩ (pc_one p) (by show 2 * (ps.length + 1) * 32 ≤ _; omega) fun S2 F7 hO7 hk7 hf7 => ?_
      have hM7 : Mine F F7 S2 149 2 (ps ++ [p]).length (rowS pcC (ps ++ [p])) := by
        have e : rowS pcC (ps ++ [p]) = rowS pcC ps ++ rowS pcC [p] := by unfold rowS; rw [List.flatMap_append]
        rw [e, List.length_append]
        refine ⟨hO7, fun k hk => ?_, hk7.ext hM6.ext hM6.fresh⟩
        rcases hf7 k hk with h | h
        · exact hM6.fresh k h
        · exact hM6.ext.none h
      have hG1 : Ext (gain G F2 F3) F3 := fun z o hz => by
        cases e : F2 z with
        | none => rw [gain_new e] at hz; exact hz
        | some u => rw [gain_old e] at hz; exact hE3 _ _ (hP.base _ _ hz)
      have hG0 : ∀ k, blk S = some k → gain G F2 F3 k = none := fun k hk => by
        cases e : F2 k with
        | none => exact absurd e (hM.own.there hk)
        | some u => rw [gain_old e]; exact hP.out k hk
      have hG6 : Ext (gain G F2 F3) F6 := hG1.trans (hE5.trans hE_g)
      have hGG : Ext G (gain G F2 F3) := gain_ext hP.base
      have hP7 : PcsK F F7 S2 (ps ++ [p]) (gain G F2 F3) := by
        refine ⟨hk7.ext hG6 hG0, fun k hk => ?_, fun x hx => ?_, fun x hx a ha => ?_⟩
        · rcases hf7 k hk with h | h
          · exact hG0 k h
          · exact hG6.none h
        · rcases List.mem_append.1 hx with hx | hx
          · exact (hP.ok x hx).mono hGG
          · rw [List.mem_singleton] at hx
            subst hx
            exact ⟨rowAt_gain hpk.row hpf, hpk.len⟩
        · rcases List.mem_append.1 hx with hx | hx
          · exact hP.new x hx a ha
          · rw [List.mem_singleton] at hx
            subst hx
            exact hM.ext.none (hpf a ha)
      ((conv => whnf); repeat (first | (apply load_at; (conv => lhs; whnf); (with_reducible assumption); rfl; (conv => whnf)) | (apply load_at; (conv => lhs; rw [add_plain, add_plain]); (with_reducible assumption); rfl; (conv => whnf)) | (apply loads_at; (conv => lhs; whnf); (with_reducible assumption); rfl; (conv => whnf)) | (refine ⟨⟨by omega, by omega⟩, ?_⟩; (conv => whnf))))
      refine ⟨k', by omega, i + 1, S2, ps ++ [p], gain G F2 F3, by omega, by rw [List.length_append, hpi]; rfl, ?_, hM7, hP7, hGG _ _ hGt, ?_⟩
      · rw [← wrap_succ (j := i) (by omega)]
        rfl
      · rw [hw]
        cases wh k' (i + 1) with
        | none => rfl
        | some us => show some (ps.map pcW ++ (pcW p :: us)) = some ((ps ++ [p]).map pcW ++ us); rw [List.map_append, List.append_assoc]; rfl
  · have hi : i = m := by
      have := of_decide_eq_false h
      omega
    obtain rfl : k = 0 := by omega
    rw [h0] at hw
    obtain ⟨A, c, rfl, _, hr⟩ := hM.own.row
    have hw : w = some (ps.map pcW ++ []) := hw
    rw [List.append_nil] at hw
    subst hw
    ((conv => whnf); repeat (first | (apply load_at; (conv => lhs; whnf); (with_reducible assumption); rfl; (conv => whnf)) | (apply load_at; (conv => lhs; rw [add_plain, add_plain]); (with_reducible assumption); rfl; (conv => whnf)) | (apply loads_at; (conv => lhs; whnf); (with_reducible assumption); rfl; (conv => whnf)) | (refine ⟨⟨by omega, by omega⟩, ?_⟩; (conv => whnf))))
    exact ⟨⟨ps, A, c, rfl, hr, fun a ha => hM.fresh a.block (by rw [ha]; rfl), fun p hp => ⟨(hP.ok p hp).mono hP.base, hP.new p hp⟩, fun _ => rfl⟩, hM.ext⟩
end Go.Proofs.YtmpiggcooboenaaDoor.Al

/- Disks: the territory of a disk, and how it changes. -/
import Derived.Test.YtlkdbmoocajjlaaDskA
namespace Go.Proofs.Ytlkdbmoocajjlaa.Al
open Go Go.Al Go.Proofs Go.RowKit
set_option maxHeartbeats 8000000
set_option maxRecDepth 100000
set_option linter.unusedVariables false
set_option linter.unusedSimpArgs false
/-- A disk as told. -/
structure DS where
  armed : Bool
  left : Int
  down : Bool
  size : Int
  safe : Int → Option (List UInt8)
  fresh : Int → Option (List UInt8)
  order : List Int
  writes : Int
structure DWf (s : DS) : Prop where
  sz : 3 ≤ s.size ∧ s.size ≤ 65536
  lf : 0 ≤ s.left ∧ s.left ≤ 9223372036854775807
  wr : 0 ≤ s.writes ∧ s.writes ≤ 1000000000
  ord : (s.order.length : Int) ≤ s.writes
  fr : ∀ i, i ∈ s.order ↔ s.fresh i ≠ none
  inr : ∀ i ∈ s.order, 0 ≤ i ∧ i < s.size
  nod : s.order.Nodup
/-- A value that is a row of bytes. -/
def VRow (G : Heap) (v : Value) (l : List UInt8) : Prop := ∃ A c, v = .slice A l.length c ∧ l.length ≤ c ∧ RowAt G A (bytesOf l)
theorem VRow.mono {G F : Heap} {v : Value} {l : List UInt8} (h : VRow G v l) (hE : Ext G F) : VRow F v l := by
  obtain ⟨A, c, h1, h2, h3⟩ := h
  exact ⟨A, c, h1, h2, h3.mono hE⟩
/-- What a map of sectors tells. -/
structure MapR (G : Heap) (m : ML) (f : Int → Option (List UInt8)) : Prop where
  no : ∀ k, getM m k = none → f k = none
  yes : ∀ k v, getM m k = some v → ∃ l, f k = some l ∧ l.length = 256 ∧ VRow G v l
theorem MapR.mono {G F : Heap} {m : ML} {f : Int → Option (List UInt8)} (h : MapR G m f) (hE : Ext G F) : MapR F m f :=
  ⟨h.no, fun k v hv => by
    obtain ⟨l, h1, h2, h3⟩ := h.yes k v hv
    exact ⟨l, h1, h2, h3.mono hE⟩⟩
theorem MapR.nil (G : Heap) : MapR G [] (fun _ => none) := ⟨fun _ _ => rfl, fun k v h => by cases h⟩
def updF (f : Int → Option (List UInt8)) (i : Int) (l : Option (List UInt8)) : Int → Option (List UInt8) := fun k => if k = i then l else f k
theorem MapR.set {G : Heap} {m : ML} {f : Int → Option (List UInt8)} (h : MapR G m f) {i : Int} {v : Value} {l : List UInt8} (hl : l.length = 256) (hv : VRow G v l) : MapR G (setM m i v) (updF f i (some l)) := by
  refine ⟨fun k hk => ?_, fun k u hk => ?_⟩
  · rw [getM_setM] at hk
    unfold updF
    by_cases e : k = i
    · rw [if_pos e] at hk; cases hk
    · rw [if_neg e] at hk ⊢; exact h.no k hk
  · rw [getM_setM] at hk
    unfold updF
    by_cases e : k = i
    · rw [if_pos e] at hk ⊢
      cases hk
      exact ⟨l, rfl, hl, hv⟩
    · rw [if_neg e] at hk ⊢; exact h.yes k u hk
/-- A disk's part of memory. -/
structure DkP (D : Heap) (b ms mf : Nat) (S : Value) (lS lF : ML) (G : Heap) (s : DS) : Prop where
  cell : D b = some (dkO s.armed s.left s.down s.size (.map (some ms)) (.map (some mf)) S s.writes)
  safe : MapAt D ms lS
  fresh : MapAt D mf lF
  own : Own D S 3 1 s.order.length (s.order.map (.int .i64))
  base : Ext G D
  gb : G b = none
  gms : G ms = none
  gmf : G mf = none
  gS : ∀ k, blk S = some k → G k = none
  msf : ms ≠ mf
  bS : blk S ≠ some b
  rs : MapR G lS s.safe
  rf : MapR G lF s.fresh
def Dk (D : Heap) (b : Nat) (s : DS) : Prop := DWf s ∧ ∃ ms mf S lS lF G, DkP D b ms mf S lS lF G s
theorem DkP.msb {D : Heap} {b ms mf : Nat} {S : Value} {lS lF : ML} {G : Heap} {s : DS} (h : DkP D b ms mf S lS lF G s) : ms ≠ b := h.safe.not_cells h.cell
theorem DkP.mfb {D : Heap} {b ms mf : Nat} {S : Value} {lS lF : ML} {G : Heap} {s : DS} (h : DkP D b ms mf S lS lF G s) : mf ≠ b := h.fresh.not_cells h.cell
/-- Its own numbers change. -/
theorem DkP.nums {D : Heap} {b ms mf : Nat} {S : Value} {lS lF : ML} {G : Heap} {s : DS} (h : DkP D b ms mf S lS lF G s) (a : Bool) (l : Int) (d : Bool) (w : Int) :
    DkP (D.put b (dkO a l d s.size (.map (some ms)) (.map (some mf)) S w)) b ms mf S lS lF G { s with armed := a, left := l, down := d, writes := w } :=
  ⟨Heap.put_same _ _ _, h.safe.other h.msb, h.fresh.other h.mfb, h.own.put h.bS, h.base.put h.gb _, h.gb, h.gms, h.gmf, h.gS, h.msf, h.bS, h.rs, h.rf⟩
/-- A sector more stands in the order. -/
theorem DkP.push {D F F' : Heap} {b ms mf : Nat} {S : Value} {lS lF : ML} {G : Heap} {s : DS} (h : DkP D b ms mf S lS lF G s) (hE : Ext D F) {S' : Value} {i : Int} (ho : Own F' S' 3 1 (s.order.length + 1) (s.order.map (.int .i64) ++ [.int .i64 i])) (hk : Keeps F F' (blk S)) (hf : ∀ k, blk S' = some k → blk S = some k ∨ F k = none) :
    ∃ D', Moves D F D' (F'.put b (dkO s.armed s.left s.down s.size (.map (some ms)) (.map (some mf)) S' s.writes)) ∧ DkP D' b ms mf S' lS lF G { s with order := s.order ++ [i] } := by
  have hown : ∀ c, blk S = some c → D c ≠ none := fun c hc => h.own.there hc
  have hm := Moves.gain1 hE hk hown
  have hkp : Keeps D (fun c => if blk S = some c then F' c else gain D F F' c) (blk S) := fun c o hc hne => by
    show (if blk S = some c then F' c else gain D F F' c) = _
    rw [if_neg hne, gain_old (hE _ _ hc)]; exact hc
  have hS' : ∀ k, blk S' = some k → (fun c => if blk S = some c then F' c else gain D F F' c) k = F' k := fun k hk' => by
    show (if blk S = some k then F' k else gain D F F' k) = _
    rcases hf k hk' with h1 | h1
    · rw [if_pos h1]
    · split
      · rfl
      · exact gain_new h1
  generalize hD1 : (fun c => if blk S = some c then F' c else gain D F F' c) = D1 at hm hkp hS'
  have hcell : D1 b = _ := hkp b _ h.cell h.bS
  have hbS' : blk S' ≠ some b := fun e => by
    rcases hf b e with h1 | h1
    · exact h.bS h1
    · rw [hE _ _ h.cell] at h1; cases h1
  have hsafe : MapAt D1 ms lS := h.safe.keeps hkp (h.safe.not_own h.own)
  have hfresh : MapAt D1 mf lF := h.fresh.keeps hkp (h.fresh.not_own h.own)
  refine ⟨Heap.put D1 b _, hm.trans (Moves.put hm.inn (.inl (by rw [hcell]; simp)) _), ⟨Heap.put_same _ _ _, hsafe.other h.msb, hfresh.other h.mfb, ?_, ?_, h.gb, h.gms, h.gmf, ?_, h.msf, hbS', h.rs, h.rf⟩⟩
  · have : Own D1 S' 3 1 (s.order.length + 1) (s.order.map (.int .i64) ++ [.int .i64 i]) := ho.of_blk fun k o hk' ho' => by rw [hS' k hk']; exact ho'
    have h2 := this.put (o := dkO s.armed s.left s.down s.size (.map (some ms)) (.map (some mf)) S' s.writes) hbS'
    show Own _ S' _ 1 (s.order ++ [i]).length ((s.order ++ [i]).map (.int .i64))
    rw [List.length_append, List.map_append]
    exact h2
  · refine Ext.put (fun c o hc => hkp c o (h.base c o hc) fun e => ?_) h.gb _
    rw [h.gS c e] at hc; cases hc
  · intro k hk'
    rcases hf k hk' with h1 | h1
    · exact h.gS k h1
    · exact h.base.none (hE.none h1)
theorem rowAt_gain {G F F' : Heap} {A : Option Addr} {vs : List Value} (hr : RowAt F' A vs) (h : ∀ a, A = some a → F a.block = none) : RowAt (gain G F F') A vs := fun j v hj => by
  obtain ⟨a, h1, h2⟩ := hr j v hj
  refine ⟨a, h1, ?_⟩
  unfold Heap.cell? at h2 ⊢
  rw [gain_new (by rw [add_block]; exact h a h1)]
  exact h2
/-- A sector's new bytes. -/
theorem DkP.setF {D F F' : Heap} {b ms mf : Nat} {S : Value} {lS lF : ML} {G : Heap} {s : DS} (h : DkP D b ms mf S lS lF G s) (hE : Ext D F) (hE2 : Ext F F') {i : Int} {v : Value} {l : List UInt8} (hl : l.length = 256) (hv : NewRow F F' v l) {o' : Obj} (ho : MapO o' (setM lF i v)) :
    Moves D F ((gain D F F').put mf o') (F'.put mf o') ∧ DkP ((gain D F F').put mf o') b ms mf S lS (setM lF i v) (gain G F F') { s with fresh := updF s.fresh i (some l) } := by
  have hm := Moves.gain hE hE2
  have hg := gain_ext (F' := F') hE
  have hold : ∀ c, D c ≠ none → gain G F F' c = G c := fun c hc => by
    cases e : D c with
    | none => exact absurd e hc
    | some o => exact gain_old (hE _ _ e)
  have hmf : D mf ≠ none := by obtain ⟨o, h1, _⟩ := h.fresh; rw [h1]; simp
  have hms : D ms ≠ none := by obtain ⟨o, h1, _⟩ := h.safe; rw [h1]; simp
  have hb : D b ≠ none := by rw [h.cell]; simp
  have hG : Ext G (gain G F F') := gain_ext (h.base.trans hE)
  have hGD : Ext (gain G F F') (gain D F F') := fun c o hc => by
    cases e : F c with
    | none => rw [gain_new e] at hc ⊢; exact hc
    | some u => rw [gain_old e] at hc ⊢; exact h.base _ _ hc
  have hmS : blk S ≠ some mf := h.fresh.not_own h.own
  refine ⟨hm.trans (Moves.put hm.inn (.inl fun e => hmf (hg.none e)) _), ⟨?_, (h.safe.mono hg).other h.msf, MapAt.put ho, ?_, hGD.put (by rw [hold _ hmf]; exact h.gmf) _, by rw [hold _ hb]; exact h.gb, by rw [hold _ hms]; exact h.gms, by rw [hold _ hmf]; exact h.gmf, fun k hk => ?_, h.msf, h.bS, h.rs.mono hG, ?_⟩⟩
  · rw [Heap.put_other _ _ (Ne.symm h.mfb)]; exact hg _ _ h.cell
  · exact (h.own.of_blk fun k o _ ho' => hg _ _ ho').put hmS
  · rw [hold _ (h.own.there hk)]; exact h.gS k hk
  · obtain ⟨A, c, h1, h2, h3, h4⟩ := hv
    exact (h.rf.mono hG).set hl ⟨A, c, h1, h2, rowAt_gain h3 h4⟩
/-- What was fresh is safe. -/
theorem DkP.setS {D : Heap} {b ms mf : Nat} {S : Value} {lS lF : ML} {G : Heap} {s : DS} (h : DkP D b ms mf S lS lF G s) {i : Int} {v : Value} (hv : getM lF i = some v) {o' : Obj} (ho : MapO o' (setM lS i v)) :
    DkP (D.put ms o') b ms mf S (setM lS i v) lF G { s with safe := updF s.safe i (s.fresh i) } := by
  have hmS : blk S ≠ some ms := h.safe.not_own h.own
  obtain ⟨l, h1, h2, h3⟩ := h.rf.yes i v hv
  refine ⟨?_, MapAt.put ho, h.fresh.other (Ne.symm h.msf), h.own.put hmS, h.base.put h.gms _, h.gb, h.gms, h.gmf, h.gS, h.msf, h.bS, ?_, h.rf⟩
  · rw [Heap.put_other _ _ (Ne.symm h.msb)]; exact h.cell
  · show MapR G _ (updF s.safe i (s.fresh i))
    rw [h1]
    exact h.rs.set h2 h3
/-- Nothing is fresh any more. -/
theorem DkP.clear {D : Heap} {b ms mf : Nat} {S : Value} {lS lF : ML} {G : Heap} {s : DS} (h : DkP D b ms mf S lS lF G s) {o' : Obj} (ho : MapO o' []) :
    DkP ((D.put mf o').put b (dkO s.armed s.left s.down s.size (.map (some ms)) (.map (some mf)) (.slice none 0 0) s.writes)) b ms mf (.slice none 0 0) lS [] G { s with fresh := fun _ => none, order := [] } := by
  refine ⟨Heap.put_same _ _ _, (h.safe.other h.msf).other h.msb, (MapAt.put ho).other h.mfb, ⟨rfl, .inl ⟨rfl, rfl⟩⟩, (h.base.put h.gmf _).put h.gb _, h.gb, h.gms, h.gmf, fun k hk => (by cases hk), h.msf, (by intro e; cases e), h.rs, MapR.nil G⟩
end Go.Proofs.Ytlkdbmoocajjlaa.Al

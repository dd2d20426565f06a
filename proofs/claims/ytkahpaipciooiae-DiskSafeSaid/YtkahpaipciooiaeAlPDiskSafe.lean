/- The law DiskSafe holds of the program: proved over what is known of memory, each function by its contract. -/
import Derived.Test.YtkahpaipciooiaeAlLawDiskSafe
import Derived.Test.YtkahpaipciooiaeDskSafe
namespace Go.Proofs.Ytkahpaipciooiae.AlDiskSafe
open Go Go.Al Go.Proofs Go.RowKit Go.Proofs.Ytkahpaipciooiae.Al
set_option maxHeartbeats 8000000
set_option maxRecDepth 100000
set_option linter.unusedVariables false
set_option linter.unusedSimpArgs false
abbrev dkZ : Obj := .cells #[.int .i64 0, .int .i64 0, .int .u8 0, .slice none 0 0] 31
theorem one4 (r : DoR) : ∀ v ∈ doC r, v.oneCell' = true := by simp [doC, Value.oneCell']
abbrev arO (l : List UInt8) : Obj := .cells (bytesOf l).toArray 41
theorem ar_put {l : List UInt8} {i : Nat} (x : UInt8) : (putL (bytesOf l).toArray.toList i [.int .u8 x.toNat]).toArray = (bytesOf (l.set i x)).toArray := by
  rw [List.toList_toArray]
  show ((bytesOf l).set i (.int .u8 x.toNat)).toArray = _
  unfold bytesOf
  rw [List.map_set]
theorem row_aside {D F F' : Heap} {A : Option Addr} {vs : List Value} (hE : Ext D F) (hr : RowAt F' A vs) (h : ∀ a, A = some a → F a.block = none) : ∃ R, Ext R F' ∧ Apart D R ∧ RowAt R A vs := by
  refine ⟨gain emptyH F F', fun c o hc => ?_, fun c hc => ?_, rowAt_gain hr h⟩
  · cases e : F c with
    | none => rw [gain_new e] at hc; exact hc
    | some u => rw [gain_old e] at hc; cases hc
  · cases e : D c with
    | none => exact absurd e hc
    | some o => exact gain_old (hE _ _ e)
theorem ar_cell {l : List UInt8} {k : Nat} (hl : l.length = 16) (hk : k < 16) : (bytesOf l).toArray[0 + (Int.toNat (k : Int)) * 1]? = some (.int .u8 (l.getD k 0).toNat) := by
  rw [Int.toNat_natCast, Nat.zero_add, Nat.mul_one]
  simp [bytesOf, List.getD, hl, hk]
theorem adN (p j : Nat) : Addr.add ⟨p, 0, none⟩ ((Int.toNat (j : Int)) * 1) = ⟨p, j, none⟩ := by
  rw [Int.toNat_natCast, Nat.mul_one, add_plain, Nat.zero_add]
theorem ar_get {l : List UInt8} {k : Nat} (hl : l.length = 16) (hk : k < 16) : (bytesOf l).toArray[k]? = some (.int .u8 (l.getD k 0).toNat) := by
  simp [bytesOf, List.getD, hl, hk]
theorem rep_getD (n k : Nat) (x : UInt8) : (List.replicate n x).getD k x = x := by
  rw [List.getD_eq_getElem?_getD, List.getElem?_replicate]
  split <;> rfl
theorem w15 (a : Int) : 0 ≤ IntKind.i64.wrap ((i15 a : Nat) : Int) ∧ IntKind.i64.wrap ((i15 a : Nat) : Int) < ((16 : Nat) : Int) := by
  rw [wrap_i15]
  have := i15_lt a
  omega
theorem ad15 (p : Nat) (a : Int) : Addr.add ⟨p, 0, none⟩ ((IntKind.i64.wrap ((i15 a : Nat) : Int)).toNat * 1) = ⟨p, i15 a, none⟩ := by
  rw [wrap_i15, Int.toNat_natCast, Nat.mul_one, add_plain, Nat.zero_add]
theorem in15 {l : List UInt8} (a : Int) (h : l.length = 16) : Nat.ble (i15 a + 1) (bytesOf l).toArray.size = true :=
  Nat.ble_eq_true_of_le (by have := i15_lt a; simp [bytesOf, h]; omega)
theorem law : LawK := by
  intro F x0 w0 A0 c0 hc0 hK0 x1 w1 A1 c1 hc1 hK1 keep w2 A2 c2 hc2 hK2
  obtain ⟨rs, hrl, hrow, hok⟩ := do_open w0.2 hK0
  obtain ⟨ss, hsl, hsrow, hsok⟩ := do_open w1.2 hK1
  have hkeep := elems_ints hK2
  rw [← hrl, ← hsl]
  clear hK0 w0 hK1 w1 hK2 w2 hc0 hc1
  have gone : ∀ (ρ : Env) (G : Heap), Ext F G → FnK Try.prog 10 #[] G (fun v F' => v = .bool true ∧ Ext F F') := fun ρ G hG => (Al.awake G).mono fun v F' h => ⟨h.1, hG.trans h.2⟩
  (refine fn_walk tab_ok Try.func4 rfl rfl rfl rfl ?_; (conv => whnf))
  refine cond_split (fun h => ?_) (fun h => ?_)
  case refine_2 =>
    ((conv => whnf); repeat (first | (apply load_at; (conv => lhs; whnf); (with_reducible assumption); rfl; (conv => whnf)) | (apply load_at; (conv => lhs; rw [add_plain, add_plain]); (with_reducible assumption); rfl; (conv => whnf)) | (apply loads_at; (conv => lhs; whnf); (with_reducible assumption); rfl; (conv => whnf)) | (refine ⟨⟨by omega, by omega⟩, ?_⟩; (conv => whnf))))
    refine call_of (Al.awake _) ?_
    rintro v F9 ⟨rfl, hF9⟩
    ((conv => whnf); repeat (first | (apply load_at; (conv => lhs; whnf); (with_reducible assumption); rfl; (conv => whnf)) | (apply load_at; (conv => lhs; rw [add_plain, add_plain]); (with_reducible assumption); rfl; (conv => whnf)) | (apply loads_at; (conv => lhs; whnf); (with_reducible assumption); rfl; (conv => whnf)) | (refine ⟨⟨by omega, by omega⟩, ?_⟩; (conv => whnf))))
    exact ⟨rfl, hF9⟩
  have h : (!decide ((rs.length : Int) > 60)) = true := h
  have hl : rs.length ≤ 60 := by have : ¬ (rs.length : Int) > 60 := by simpa using h
                                 omega
  ((conv => whnf); repeat (first | (apply load_at; (conv => lhs; whnf); (with_reducible assumption); rfl; (conv => whnf)) | (apply load_at; (conv => lhs; rw [add_plain, add_plain]); (with_reducible assumption); rfl; (conv => whnf)) | (apply loads_at; (conv => lhs; whnf); (with_reducible assumption); rfl; (conv => whnf)) | (refine ⟨⟨by omega, by omega⟩, ?_⟩; (conv => whnf))))
  refine cond_split (fun h => ?_) (fun h => ?_)
  case refine_2 =>
    ((conv => whnf); repeat (first | (apply load_at; (conv => lhs; whnf); (with_reducible assumption); rfl; (conv => whnf)) | (apply load_at; (conv => lhs; rw [add_plain, add_plain]); (with_reducible assumption); rfl; (conv => whnf)) | (apply loads_at; (conv => lhs; whnf); (with_reducible assumption); rfl; (conv => whnf)) | (refine ⟨⟨by omega, by omega⟩, ?_⟩; (conv => whnf))))
    refine call_of (Al.awake _) ?_
    rintro v F9 ⟨rfl, hF9⟩
    ((conv => whnf); repeat (first | (apply load_at; (conv => lhs; whnf); (with_reducible assumption); rfl; (conv => whnf)) | (apply load_at; (conv => lhs; rw [add_plain, add_plain]); (with_reducible assumption); rfl; (conv => whnf)) | (apply loads_at; (conv => lhs; whnf); (with_reducible assumption); rfl; (conv => whnf)) | (refine ⟨⟨by omega, by omega⟩, ?_⟩; (conv => whnf))))
    exact ⟨rfl, hF9⟩
  have h : (!decide ((ss.length : Int) > 60)) = true := h
  have hl2 : ss.length ≤ 60 := by have : ¬ (ss.length : Int) > 60 := by simpa using h
                                  omega
  ((conv => whnf); repeat (first | (apply load_at; (conv => lhs; whnf); (with_reducible assumption); rfl; (conv => whnf)) | (apply load_at; (conv => lhs; rw [add_plain, add_plain]); (with_reducible assumption); rfl; (conv => whnf)) | (apply loads_at; (conv => lhs; whnf); (with_reducible assumption); rfl; (conv => whnf)) | (refine ⟨⟨by omega, by omega⟩, ?_⟩; (conv => whnf))))
  refine cond_split (fun h => ?_) (fun h => ?_)
  · ((conv => whnf); repeat (first | (apply load_at; (conv => lhs; whnf); (with_reducible assumption); rfl; (conv => whnf)) | (apply load_at; (conv => lhs; rw [add_plain, add_plain]); (with_reducible assumption); rfl; (conv => whnf)) | (apply loads_at; (conv => lhs; whnf); (with_reducible assumption); rfl; (conv => whnf)) | (refine ⟨⟨by omega, by omega⟩, ?_⟩; (conv => whnf))))
    refine call_of (Al.awake _) ?_
    rintro v F9 ⟨rfl, hF9⟩
    ((conv => whnf); repeat (first | (apply load_at; (conv => lhs; whnf); (with_reducible assumption); rfl; (conv => whnf)) | (apply load_at; (conv => lhs; rw [add_plain, add_plain]); (with_reducible assumption); rfl; (conv => whnf)) | (apply loads_at; (conv => lhs; whnf); (with_reducible assumption); rfl; (conv => whnf)) | (refine ⟨⟨by omega, by omega⟩, ?_⟩; (conv => whnf))))
    exact ⟨rfl, hF9⟩
  have h : decide ((keep.length : Int) > 60) = false := h
  have hl3 : keep.length ≤ 60 := by have := of_decide_eq_false h; omega
  refine short [0, 1, 2] [.slice A0 rs.length c0, .slice A1 ss.length c1, .slice A2 keep.length c2] rfl fun ρ => ?_
  ((conv => whnf); repeat (first | (apply load_at; (conv => lhs; whnf); (with_reducible assumption); rfl; (conv => whnf)) | (apply load_at; (conv => lhs; rw [add_plain, add_plain]); (with_reducible assumption); rfl; (conv => whnf)) | (apply loads_at; (conv => lhs; whnf); (with_reducible assumption); rfl; (conv => whnf)) | (refine ⟨⟨by omega, by omega⟩, ?_⟩; (conv => whnf))))
  refine call_of (new 16 F) ?_
  rintro v F1 h
  rcases h with ⟨h, _⟩ | ⟨_, _, b, D1, rfl, hM1, hD1⟩
  · omega
  ((conv => whnf); repeat (first | (apply load_at; (conv => lhs; whnf); (with_reducible assumption); rfl; (conv => whnf)) | (apply load_at; (conv => lhs; rw [add_plain, add_plain]); (with_reducible assumption); rfl; (conv => whnf)) | (apply loads_at; (conv => lhs; whnf); (with_reducible assumption); rfl; (conv => whnf)) | (refine ⟨⟨by omega, by omega⟩, ?_⟩; (conv => whnf))))
  refine new_step (arO (List.replicate 16 0)) rfl fun ps h0_ps => ?_
  have hE_ps := Ext.new h0_ps (arO (List.replicate 16 0))
  have hB_ps := Heap.put_same F1 ps (arO (List.replicate 16 0))
  generalize F1.put ps _ = F2 at hE_ps hB_ps ⊢
  have hp1 : F ps = none := (show Ext F F1 from fun c o hc => hM1.out c o hc rfl).none h0_ps
  have hq1 : D1 ps = none := hM1.inn.none h0_ps
  have hM2 := hM1.trans (Moves.ext hM1.inn hE_ps)
  (conv => whnf)
  refine new_step (arO (List.replicate 16 0)) rfl fun pl h0_pl => ?_
  have hE_pl := Ext.new h0_pl (arO (List.replicate 16 0))
  have hB_pl := Heap.put_same F2 pl (arO (List.replicate 16 0))
  generalize F2.put pl _ = F3 at hE_pl hB_pl ⊢
  have hp2 : F pl = none := (show Ext F F2 from fun c o hc => hM2.out c o hc rfl).none h0_pl
  have hq2 : D1 pl = none := hM2.inn.none h0_pl
  have hM3 := hM2.trans (Moves.ext hM2.inn hE_pl)
  have hB3 := hE_pl _ _ hB_ps
  have hne : ps ≠ pl := fun e => by rw [e, h0_pl] at hB_ps; cases hB_ps
  clear hM1 hM2 hE_ps hE_pl hB_ps
  ((conv => whnf); repeat (first | (apply load_at; (conv => lhs; whnf); (with_reducible assumption); rfl; (conv => whnf)) | (apply load_at; (conv => lhs; rw [add_plain, add_plain]); (with_reducible assumption); rfl; (conv => whnf)) | (apply loads_at; (conv => lhs; whnf); (with_reducible assumption); rfl; (conv => whnf)) | (refine ⟨⟨by omega, by omega⟩, ?_⟩; (conv => whnf))))
  refine loop_slots [0, 1, 2, 7, 9, 10, 45, 46, 47] (fun k vs F' => ∃ (j : Nat) (D' : Heap) (s : DS) (sa : List UInt8), j + k = rs.length ∧ vs = [.slice A0 rs.length c0, .slice A1 ss.length c1, .slice A2 keep.length c2, .pointer (some ⟨b, 0, none⟩), .pointer (some ⟨ps, 0, none⟩), .pointer (some ⟨pl, 0, none⟩), .slice A0 rs.length c0, .int .i64 (rs.length : Int), .int .i64 (j : Int)] ∧ Moves emptyH F D' F' ∧ Dk D' b s ∧ D' ps = none ∧ D' pl = none ∧ F' ps = some (arO sa) ∧ F' pl = some (arO sa) ∧ DkCalm s j ∧ Says (secB s) sa) rs.length ⟨0, D1, _, List.replicate 16 0, by omega, rfl, hM3, hD1, hq1, hq2, hB3, hB_pl, ⟨rfl, rfl, rfl, rfl⟩, rfl, ?_⟩ ?_
  · intro k hk
    rw [rep_getD]
    rfl
  rintro k vs F4 ρ ⟨j, D4, s, sa, hjk, rfl, hM4, hD4, hd1, hd2, hb1, hb2, hcalm, hsay⟩
  have hE4 : Ext F F4 := fun c o hc => hM4.out c o hc rfl
  ((conv => whnf); repeat (first | (apply load_at; (conv => lhs; whnf); (with_reducible assumption); rfl; (conv => whnf)) | (apply load_at; (conv => lhs; rw [add_plain, add_plain]); (with_reducible assumption); rfl; (conv => whnf)) | (apply loads_at; (conv => lhs; whnf); (with_reducible assumption); rfl; (conv => whnf)) | (refine ⟨⟨by omega, by omega⟩, ?_⟩; (conv => whnf))))
  refine cond_split (fun h => ?_) (fun h => ?_)
  · have hj : j < rs.length := by have := of_decide_eq_true h; omega
    obtain ⟨ad, rfl⟩ := hrow.some (by rw [rowS_len doC_len]; omega)
    obtain ⟨r, hr⟩ : ∃ r, rs[j]? = some r := ⟨_, List.getElem?_eq_getElem hj⟩
    ((conv => whnf); repeat (first | (apply load_at; (conv => lhs; whnf); (with_reducible assumption); rfl; (conv => whnf)) | (apply load_at; (conv => lhs; rw [add_plain, add_plain]); (with_reducible assumption); rfl; (conv => whnf)) | (apply loads_at; (conv => lhs; whnf); (with_reducible assumption); rfl; (conv => whnf)) | (refine ⟨⟨by omega, by omega⟩, ?_⟩; (conv => whnf))))
    refine rowS_loads doC_len (by decide) (hrow.mono hE4) hr ?_
    ((conv => whnf); repeat (first | (apply load_at; (conv => lhs; whnf); (with_reducible assumption); rfl; (conv => whnf)) | (apply load_at; (conv => lhs; rw [add_plain, add_plain]); (with_reducible assumption); rfl; (conv => whnf)) | (apply loads_at; (conv => lhs; whnf); (with_reducible assumption); rfl; (conv => whnf)) | (refine ⟨⟨by omega, by omega⟩, ?_⟩; (conv => whnf))))
    refine new_step (dkZ) rfl fun g h0_g => ?_
    have hU_g := Heap.put_same F4 g (dkZ)
    have hX_g := fun o => (ext_put_put h0_g (o := dkZ) (o' := o))
    generalize F4.put g (dkZ) = F5 at hU_g hX_g ⊢
    (conv => whnf)
    refine store_step g 0 _ ((doC r).toArray) rfl hU_g rfl rfl (.inl (Nat.le_refl 0)) (one4 r) ?_
    have hB_g := Heap.put_same F5 g (.cells (doC r).toArray 31)
    have hE_g := hX_g (.cells (doC r).toArray 31)
    clear hU_g hX_g
    generalize F5.put g _ = F5 at hB_g hE_g ⊢
    have hM5 := hM4.trans (Moves.ext hM4.inn hE_g)
    have hii := i15_lt r.i
    have hdg : D4 g = none := hM4.inn.none h0_g
    obtain ⟨q1, q2, q3⟩ := safe_step hcalm (i := ((i15 r.i : Nat) : Int)) (by omega) (l := List.replicate 256 r.byte) (by rw [List.length_replicate])
    refine short [0, 1, 2, 7, 9, 10, 45, 46, 47, 12] [.slice (some ad) rs.length c0, .slice A1 ss.length c1, .slice A2 keep.length c2, .pointer (some ⟨b, 0, none⟩), .pointer (some ⟨ps, 0, none⟩), .pointer (some ⟨pl, 0, none⟩), .slice (some ad) rs.length c0, .int .i64 (rs.length : Int), .int .i64 (j : Int), .pointer (some ⟨g, 0, none⟩)] rfl fun ρ => ?_
    ((conv => whnf); repeat (first | (apply load_at; (conv => lhs; whnf); (with_reducible assumption); rfl; (conv => whnf)) | (apply load_at; (conv => lhs; rw [add_plain, add_plain]); (with_reducible assumption); rfl; (conv => whnf)) | (apply loads_at; (conv => lhs; whnf); (with_reducible assumption); rfl; (conv => whnf)) | (refine ⟨⟨by omega, by omega⟩, ?_⟩; (conv => whnf))))
    refine draw_walk tab_ok (by kernel_rfl) [0, 1, 2, 3, 4, 5, 6, 7] (by kernel_rfl) ?_
    ((conv => whnf); repeat (first | (apply load_at; (conv => lhs; whnf); (with_reducible assumption); rfl; (conv => whnf)) | (apply load_at; (conv => lhs; rw [add_plain, add_plain]); (with_reducible assumption); rfl; (conv => whnf)) | (apply loads_at; (conv => lhs; whnf); (with_reducible assumption); rfl; (conv => whnf)) | (refine ⟨⟨by omega, by omega⟩, ?_⟩; (conv => whnf))))
    refine call_of (sector r.byte F5) ?_
    rintro v F6 ⟨hrow6, hE6⟩
    (conv => whnf)
    refine ⟨hE6, ?_⟩
    ((conv => whnf); repeat (first | (apply load_at; (conv => lhs; whnf); (with_reducible assumption); rfl; (conv => whnf)) | (apply load_at; (conv => lhs; rw [add_plain, add_plain]); (with_reducible assumption); rfl; (conv => whnf)) | (apply loads_at; (conv => lhs; whnf); (with_reducible assumption); rfl; (conv => whnf)) | (refine ⟨⟨by omega, by omega⟩, ?_⟩; (conv => whnf))))
    refine call_of (args_eq ?ha (writeSec r.byte hM5.inn hD4 hrow6 hE6 ((i15 r.i : Nat) : Int) (by rw [hcalm.wr]; omega))) ?_
    case ha =>
      rw [← wrap_i15 r.i]
      rfl
    rintro v F7 ⟨_, D7, hM7, hD7⟩
    have hg7 := (Moves.stay hM7 hB_g hdg).1
    have hp7 := Moves.stay hM7 (hE_g _ _ hb1) hd1
    have hl7 := Moves.stay hM7 (hE_g _ _ hb2) hd2
    replace hM7 := hM5.trans hM7
    clear hM5 hM4 hrow6 hE6 hB_g hE_g
    refine short [0, 1, 2, 7, 9, 10, 45, 46, 47, 12] [.slice (some ad) rs.length c0, .slice A1 ss.length c1, .slice A2 keep.length c2, .pointer (some ⟨b, 0, none⟩), .pointer (some ⟨ps, 0, none⟩), .pointer (some ⟨pl, 0, none⟩), .slice (some ad) rs.length c0, .int .i64 (rs.length : Int), .int .i64 (j : Int), .pointer (some ⟨g, 0, none⟩)] rfl fun ρ => ?_
    ((conv => whnf); repeat (first | (apply load_at; (conv => lhs; whnf); (with_reducible assumption); rfl; (conv => whnf)) | (apply load_at; (conv => lhs; rw [add_plain, add_plain]); (with_reducible assumption); rfl; (conv => whnf)) | (apply loads_at; (conv => lhs; whnf); (with_reducible assumption); rfl; (conv => whnf)) | (refine ⟨⟨by omega, by omega⟩, ?_⟩; (conv => whnf))))
    have hgo := only_at hg7
    have hgs : g ≠ ps := fun e => by rw [e, hb1] at h0_g; cases h0_g
    have hgl : g ≠ pl := fun e => by rw [e, hb2] at h0_g; cases h0_g
    refine draw_tree_at tab_ok (by kernel_rfl) [4, 9] (DT.row [0, 1, 2, 3, 4, 5, 6, 7, 8, 9, 10, 11, 12, 13] .nil) (by kernel_rfl) (F7.only g) (only_ext rfl) ?_
    ((conv => whnf); repeat (first | (apply load_at; (conv => lhs; whnf); (with_reducible assumption); rfl; (conv => whnf)) | (apply load_at; (conv => lhs; rw [add_plain, add_plain]); (with_reducible assumption); rfl; (conv => whnf)) | (apply loads_at; (conv => lhs; whnf); (with_reducible assumption); rfl; (conv => whnf)) | (refine ⟨⟨by omega, by omega⟩, ?_⟩; (conv => whnf))))
    refine ⟨w15 r.i, ?_⟩
    ((conv => whnf); repeat (first | (apply load_at; (conv => lhs; whnf); (with_reducible assumption); rfl; (conv => whnf)) | (apply load_at; (conv => lhs; rw [add_plain, add_plain]); (with_reducible assumption); rfl; (conv => whnf)) | (apply loads_at; (conv => lhs; whnf); (with_reducible assumption); rfl; (conv => whnf)) | (refine ⟨⟨by omega, by omega⟩, ?_⟩; (conv => whnf))))
    refine store_step ps (i15 r.i) _ _ (ad15 ps r.i) hp7.1 (ar_put r.byte) (in15 r.i hsay.1) (.inl (Nat.le_refl 0)) (one_int _ _) ?_
    have hM8 := Moves.side hM7 hp1 hp7.2 (arO (sa.set (i15 r.i) r.byte))
    have hb8 := Heap.put_same F7 ps (arO (sa.set (i15 r.i) r.byte))
    have hl8 : F7.put ps (arO (sa.set (i15 r.i) r.byte)) pl = some (arO sa) := by rw [Heap.put_other _ _ (Ne.symm hne)]; exact hl7.1
    have hg8 : Ext (F7.only g) (F7.put ps (arO (sa.set (i15 r.i) r.byte))) := only_ext (Heap.put_other _ _ hgs)
    generalize F7.put ps _ = F8 at hM8 hb8 hl8 hg8 ⊢
    refine ⟨hg8, ?_⟩
    ((conv => whnf); repeat (first | (apply load_at; (conv => lhs; whnf); (with_reducible assumption); rfl; (conv => whnf)) | (apply load_at; (conv => lhs; rw [add_plain, add_plain]); (with_reducible assumption); rfl; (conv => whnf)) | (apply loads_at; (conv => lhs; whnf); (with_reducible assumption); rfl; (conv => whnf)) | (refine ⟨⟨by omega, by omega⟩, ?_⟩; (conv => whnf))))
    refine ⟨w15 r.i, ?_⟩
    ((conv => whnf); repeat (first | (apply load_at; (conv => lhs; whnf); (with_reducible assumption); rfl; (conv => whnf)) | (apply load_at; (conv => lhs; rw [add_plain, add_plain]); (with_reducible assumption); rfl; (conv => whnf)) | (apply loads_at; (conv => lhs; whnf); (with_reducible assumption); rfl; (conv => whnf)) | (refine ⟨⟨by omega, by omega⟩, ?_⟩; (conv => whnf))))
    refine store_step pl (i15 r.i) _ _ (ad15 pl r.i) hl8 (ar_put r.byte) (in15 r.i hsay.1) (.inl (Nat.le_refl 0)) (one_int _ _) ?_
    have hM9 := Moves.side hM8 hp2 hl7.2 (arO (sa.set (i15 r.i) r.byte))
    have hl9 := Heap.put_same F8 pl (arO (sa.set (i15 r.i) r.byte))
    have hb9 : F8.put pl (arO (sa.set (i15 r.i) r.byte)) ps = some (arO (sa.set (i15 r.i) r.byte)) := by rw [Heap.put_other _ _ hne]; exact hb8
    have hg9 : Ext (F7.only g) (F8.put pl (arO (sa.set (i15 r.i) r.byte))) := only_ext (by rw [Heap.put_other _ _ hgl, hg7]; exact hg8 _ _ hgo)
    generalize F8.put pl _ = F9 at hM9 hb9 hl9 hg9 ⊢
    refine ⟨hg9, ?_⟩
    ((conv => whnf); repeat (first | (apply load_at; (conv => lhs; whnf); (with_reducible assumption); rfl; (conv => whnf)) | (apply load_at; (conv => lhs; rw [add_plain, add_plain]); (with_reducible assumption); rfl; (conv => whnf)) | (apply loads_at; (conv => lhs; whnf); (with_reducible assumption); rfl; (conv => whnf)) | (refine ⟨⟨by omega, by omega⟩, ?_⟩; (conv => whnf))))
    refine ⟨k - 1, by omega, j + 1, D7, _, _, by omega, ?_, hM9, hD7, hp7.2, hl7.2, hb9, hl9, q1, hsay.set hii r.byte q2⟩
    rw [← wrap_succ (j := j) (by omega)]
    rfl
  · have hj : j = rs.length := by have := of_decide_eq_false h; omega
    subst hj
    refine short [0, 1, 2, 7, 9, 10] [.slice A0 rs.length c0, .slice A1 ss.length c1, .slice A2 keep.length c2, .pointer (some ⟨b, 0, none⟩), .pointer (some ⟨ps, 0, none⟩), .pointer (some ⟨pl, 0, none⟩)] rfl fun ρ => ?_
    obtain ⟨f1, f2, f3⟩ := flush_calm hcalm hD4.1
    ((conv => whnf); repeat (first | (apply load_at; (conv => lhs; whnf); (with_reducible assumption); rfl; (conv => whnf)) | (apply load_at; (conv => lhs; rw [add_plain, add_plain]); (with_reducible assumption); rfl; (conv => whnf)) | (apply loads_at; (conv => lhs; whnf); (with_reducible assumption); rfl; (conv => whnf)) | (refine ⟨⟨by omega, by omega⟩, ?_⟩; (conv => whnf))))
    refine call_of (flush hM4.inn hD4) ?_
    rintro v F5 ⟨_, D5, hM5, hD5⟩
    have hp5 := Moves.stay hM5 hb1 hd1
    have hl5 := Moves.stay hM5 hb2 hd2
    replace hM5 := hM4.trans hM5
    have hsf := hsay.congr f3
    have hsl := hsay.congr f2
    generalize flushS s = s1 at hD5 f1 f2 f3 hsf hsl
    clear f2 f3 hsay hcalm hD4 hM4 hb1 hb2 hd1 hd2
    ((conv => whnf); repeat (first | (apply load_at; (conv => lhs; whnf); (with_reducible assumption); rfl; (conv => whnf)) | (apply load_at; (conv => lhs; rw [add_plain, add_plain]); (with_reducible assumption); rfl; (conv => whnf)) | (apply loads_at; (conv => lhs; whnf); (with_reducible assumption); rfl; (conv => whnf)) | (refine ⟨⟨by omega, by omega⟩, ?_⟩; (conv => whnf))))
    refine loop_slots [1, 2, 7, 9, 10, 74, 75, 76] (fun k vs F' => ∃ (j : Nat) (D' : Heap) (s : DS) (la : List UInt8), j + k = ss.length ∧ vs = [.slice A1 ss.length c1, .slice A2 keep.length c2, .pointer (some ⟨b, 0, none⟩), .pointer (some ⟨ps, 0, none⟩), .pointer (some ⟨pl, 0, none⟩), .slice A1 ss.length c1, .int .i64 (ss.length : Int), .int .i64 (j : Int)] ∧ Moves emptyH F D' F' ∧ Dk D' b s ∧ D' ps = none ∧ D' pl = none ∧ F' ps = some (arO sa) ∧ F' pl = some (arO la) ∧ DkCalm s (rs.length + j) ∧ Says (safB s) sa ∧ Says (secB s) la) ss.length ⟨0, D5, _, sa, by omega, rfl, hM5, hD5, hp5.2, hl5.2, hp5.1, hl5.1, f1, hsf, hsl⟩ ?_
    clear hD5 hsf hsl f1 hp5 hl5 hM5
    rintro k2 vs F4 ρ ⟨j, D4, s, la, hjk, rfl, hM4, hD4, hd1, hd2, hb1, hb2, hcalm, hsf, hsay⟩
    have hE4 : Ext F F4 := fun c o hc => hM4.out c o hc rfl
    ((conv => whnf); repeat (first | (apply load_at; (conv => lhs; whnf); (with_reducible assumption); rfl; (conv => whnf)) | (apply load_at; (conv => lhs; rw [add_plain, add_plain]); (with_reducible assumption); rfl; (conv => whnf)) | (apply loads_at; (conv => lhs; whnf); (with_reducible assumption); rfl; (conv => whnf)) | (refine ⟨⟨by omega, by omega⟩, ?_⟩; (conv => whnf))))
    refine cond_split (fun h => ?_) (fun h => ?_)
    · have hj : j < ss.length := by have := of_decide_eq_true h; omega
      obtain ⟨ad, rfl⟩ := hsrow.some (by rw [rowS_len doC_len]; omega)
      obtain ⟨r, hr⟩ : ∃ r, ss[j]? = some r := ⟨_, List.getElem?_eq_getElem hj⟩
      ((conv => whnf); repeat (first | (apply load_at; (conv => lhs; whnf); (with_reducible assumption); rfl; (conv => whnf)) | (apply load_at; (conv => lhs; rw [add_plain, add_plain]); (with_reducible assumption); rfl; (conv => whnf)) | (apply loads_at; (conv => lhs; whnf); (with_reducible assumption); rfl; (conv => whnf)) | (refine ⟨⟨by omega, by omega⟩, ?_⟩; (conv => whnf))))
      refine rowS_loads doC_len (by decide) (hsrow.mono hE4) hr ?_
      ((conv => whnf); repeat (first | (apply load_at; (conv => lhs; whnf); (with_reducible assumption); rfl; (conv => whnf)) | (apply load_at; (conv => lhs; rw [add_plain, add_plain]); (with_reducible assumption); rfl; (conv => whnf)) | (apply loads_at; (conv => lhs; whnf); (with_reducible assumption); rfl; (conv => whnf)) | (refine ⟨⟨by omega, by omega⟩, ?_⟩; (conv => whnf))))
      refine new_step (dkZ) rfl fun g h0_g => ?_
      have hU_g := Heap.put_same F4 g (dkZ)
      have hX_g := fun o => (ext_put_put h0_g (o := dkZ) (o' := o))
      generalize F4.put g (dkZ) = F5 at hU_g hX_g ⊢
      (conv => whnf)
      refine store_step g 0 _ ((doC r).toArray) rfl hU_g rfl rfl (.inl (Nat.le_refl 0)) (one4 r) ?_
      have hB_g := Heap.put_same F5 g (.cells (doC r).toArray 31)
      have hE_g := hX_g (.cells (doC r).toArray 31)
      clear hU_g hX_g
      generalize F5.put g _ = F5 at hB_g hE_g ⊢
      have hM5 := hM4.trans (Moves.ext hM4.inn hE_g)
      have hii := i15_lt r.i
      have hdg : D4 g = none := hM4.inn.none h0_g
      obtain ⟨q1, q2, q3⟩ := safe_step hcalm (i := ((i15 r.i : Nat) : Int)) (by omega) (l := List.replicate 256 r.byte) (by rw [List.length_replicate])
      refine short [1, 2, 7, 9, 10, 74, 75, 76, 14] [.slice (some ad) ss.length c1, .slice A2 keep.length c2, .pointer (some ⟨b, 0, none⟩), .pointer (some ⟨ps, 0, none⟩), .pointer (some ⟨pl, 0, none⟩), .slice (some ad) ss.length c1, .int .i64 (ss.length : Int), .int .i64 (j : Int), .pointer (some ⟨g, 0, none⟩)] rfl fun ρ => ?_
      ((conv => whnf); repeat (first | (apply load_at; (conv => lhs; whnf); (with_reducible assumption); rfl; (conv => whnf)) | (apply load_at; (conv => lhs; rw [add_plain, add_plain]); (with_reducible assumption); rfl; (conv => whnf)) | (apply loads_at; (conv => lhs; whnf); (with_reducible assumption); rfl; (conv => whnf)) | (refine ⟨⟨by omega, by omega⟩, ?_⟩; (conv => whnf))))
      refine draw_walk tab_ok (by kernel_rfl) [0, 1, 2, 3, 4, 5, 6, 7] (by kernel_rfl) ?_
      ((conv => whnf); repeat (first | (apply load_at; (conv => lhs; whnf); (with_reducible assumption); rfl; (conv => whnf)) | (apply load_at; (conv => lhs; rw [add_plain, add_plain]); (with_reducible assumption); rfl; (conv => whnf)) | (apply loads_at; (conv => lhs; whnf); (with_reducible assumption); rfl; (conv => whnf)) | (refine ⟨⟨by omega, by omega⟩, ?_⟩; (conv => whnf))))
      refine call_of (sector r.byte F5) ?_
      rintro v F6 ⟨hrow6, hE6⟩
      (conv => whnf)
      refine ⟨hE6, ?_⟩
      ((conv => whnf); repeat (first | (apply load_at; (conv => lhs; whnf); (with_reducible assumption); rfl; (conv => whnf)) | (apply load_at; (conv => lhs; rw [add_plain, add_plain]); (with_reducible assumption); rfl; (conv => whnf)) | (apply loads_at; (conv => lhs; whnf); (with_reducible assumption); rfl; (conv => whnf)) | (refine ⟨⟨by omega, by omega⟩, ?_⟩; (conv => whnf))))
      refine call_of (args_eq ?ha2 (writeSec r.byte hM5.inn hD4 hrow6 hE6 ((i15 r.i : Nat) : Int) (by rw [hcalm.wr]; omega))) ?_
      case ha2 =>
        rw [← wrap_i15 r.i]
        rfl
      rintro v F7 ⟨_, D7, hM7, hD7⟩
      have hg7 := (Moves.stay hM7 hB_g hdg).1
      have hp7 := Moves.stay hM7 (hE_g _ _ hb1) hd1
      have hl7 := Moves.stay hM7 (hE_g _ _ hb2) hd2
      replace hM7 := hM5.trans hM7
      clear hM5 hM4 hrow6 hE6 hB_g hE_g
      ((conv => whnf); repeat (first | (apply load_at; (conv => lhs; whnf); (with_reducible assumption); rfl; (conv => whnf)) | (apply load_at; (conv => lhs; rw [add_plain, add_plain]); (with_reducible assumption); rfl; (conv => whnf)) | (apply loads_at; (conv => lhs; whnf); (with_reducible assumption); rfl; (conv => whnf)) | (refine ⟨⟨by omega, by omega⟩, ?_⟩; (conv => whnf))))
      refine ⟨w15 r.i, ?_⟩
      ((conv => whnf); repeat (first | (apply load_at; (conv => lhs; whnf); (with_reducible assumption); rfl; (conv => whnf)) | (apply load_at; (conv => lhs; rw [add_plain, add_plain]); (with_reducible assumption); rfl; (conv => whnf)) | (apply loads_at; (conv => lhs; whnf); (with_reducible assumption); rfl; (conv => whnf)) | (refine ⟨⟨by omega, by omega⟩, ?_⟩; (conv => whnf))))
      refine store_step pl (i15 r.i) _ _ (ad15 pl r.i) hl7.1 (ar_put r.byte) (in15 r.i hsay.1) (.inl (Nat.le_refl 0)) (one_int _ _) ?_
      have hM9 := Moves.side hM7 hp2 hl7.2 (arO (la.set (i15 r.i) r.byte))
      have hl9 := Heap.put_same F7 pl (arO (la.set (i15 r.i) r.byte))
      have hb9 : F7.put pl (arO (la.set (i15 r.i) r.byte)) ps = some (arO sa) := by rw [Heap.put_other _ _ hne]; exact hp7.1
      generalize F7.put pl _ = F9 at hM9 hb9 hl9 ⊢
      ((conv => whnf); repeat (first | (apply load_at; (conv => lhs; whnf); (with_reducible assumption); rfl; (conv => whnf)) | (apply load_at; (conv => lhs; rw [add_plain, add_plain]); (with_reducible assumption); rfl; (conv => whnf)) | (apply loads_at; (conv => lhs; whnf); (with_reducible assumption); rfl; (conv => whnf)) | (refine ⟨⟨by omega, by omega⟩, ?_⟩; (conv => whnf))))
      refine ⟨k2 - 1, by omega, j + 1, D7, _, _, by omega, ?_, hM9, hD7, hp7.2, hl7.2, hb9, hl9, q1, hsf.congr q3, hsay.set hii r.byte q2⟩
      rw [← wrap_succ (j := j) (by omega)]
      rfl
    have hj : j = ss.length := by have := of_decide_eq_false h; omega
    subst hj
    have hcr := crash_read hcalm hD4.1 keep
    refine short [2, 7, 9, 10] [.slice A2 keep.length c2, .pointer (some ⟨b, 0, none⟩), .pointer (some ⟨ps, 0, none⟩), .pointer (some ⟨pl, 0, none⟩)] rfl fun ρ => ?_
    ((conv => whnf); repeat (first | (apply load_at; (conv => lhs; whnf); (with_reducible assumption); rfl; (conv => whnf)) | (apply load_at; (conv => lhs; rw [add_plain, add_plain]); (with_reducible assumption); rfl; (conv => whnf)) | (apply loads_at; (conv => lhs; whnf); (with_reducible assumption); rfl; (conv => whnf)) | (refine ⟨⟨by omega, by omega⟩, ?_⟩; (conv => whnf))))
    refine call_of (pending hM4.inn hD4) ?_
    rintro v F5 ⟨PA, pc, rfl, hpc, hprow, hpf, hE5⟩
    obtain ⟨R, hR1, hR2, hR3⟩ := row_aside hM4.inn hprow hpf
    have hM5 := hM4.trans (Moves.ext hM4.inn hE5)
    have hF5 : Ext F F5 := fun c o hc => hM5.out c o hc rfl
    have hAF : Apart D4 F := fun c hc => (hM4.new c hc).resolve_left (fun e => e rfl)
    ((conv => whnf); repeat (first | (apply load_at; (conv => lhs; whnf); (with_reducible assumption); rfl; (conv => whnf)) | (apply load_at; (conv => lhs; rw [add_plain, add_plain]); (with_reducible assumption); rfl; (conv => whnf)) | (apply loads_at; (conv => lhs; whnf); (with_reducible assumption); rfl; (conv => whnf)) | (refine ⟨⟨by omega, by omega⟩, ?_⟩; (conv => whnf))))
    refine call_of (crash hM5.inn hD4 hF5 hAF keep A2 c2 hkeep (by omega)) ?_
    rintro v F6 ⟨rfl, D6, hM6, hD6⟩
    have hR6 := hM6.keep hR1 hR2
    have hp6 := Moves.stay hM6 (hE5 _ _ hb1) hd1
    have hl6 := Moves.stay hM6 (hE5 _ _ hb2) hd2
    have hP6 := hR3.mono hR6
    replace hM6 := hM5.trans hM6
    have hF6 : Ext F F6 := fun c o hc => hM6.out c o hc rfl
    have hol : s.order.length ≤ 900000 := by have := hD4.1.ord; rw [hcalm.wr] at this; omega
    clear hM5 hM4 hR1 hR2 hR3 hR6 hprow hpf hE5 hb1 hb2 hd1 hd2 hE4 hF5
    ((conv => whnf); repeat (first | (apply load_at; (conv => lhs; whnf); (with_reducible assumption); rfl; (conv => whnf)) | (apply load_at; (conv => lhs; rw [add_plain, add_plain]); (with_reducible assumption); rfl; (conv => whnf)) | (apply loads_at; (conv => lhs; whnf); (with_reducible assumption); rfl; (conv => whnf)) | (refine ⟨⟨by omega, by omega⟩, ?_⟩; (conv => whnf))))
    refine loop_slots [2, 7, 9, 10, 15, 100] (fun k vs F' => ∃ j : Nat, j + k = 16 ∧ vs = [.slice A2 keep.length c2, .pointer (some ⟨b, 0, none⟩), .pointer (some ⟨ps, 0, none⟩), .pointer (some ⟨pl, 0, none⟩), .slice PA s.order.length pc, .int .i64 (j : Int)] ∧ Ext F6 F') 16 ⟨0, by omega, rfl, Ext.refl _⟩ ?_
    rintro k3 vs F7 ρ ⟨j, hjk, rfl, hE7⟩
    ((conv => whnf); repeat (first | (apply load_at; (conv => lhs; whnf); (with_reducible assumption); rfl; (conv => whnf)) | (apply load_at; (conv => lhs; rw [add_plain, add_plain]); (with_reducible assumption); rfl; (conv => whnf)) | (apply loads_at; (conv => lhs; whnf); (with_reducible assumption); rfl; (conv => whnf)) | (refine ⟨⟨by omega, by omega⟩, ?_⟩; (conv => whnf))))
    refine cond_split (fun h => ?_) (fun h => ?_)
    · have hj : j < 16 := by have : (j : Int) < 16 := of_decide_eq_true h
                             omega
      have hpb := hE7 _ _ hp6.1
      have hlb := hE7 _ _ hl6.1
      have hcj := hcr (j : Int) ⟨by omega, by omega⟩
      have hxI := indexInts s.order (j : Int) PA pc F7 (hP6.mono hE7) hol
      have hsa := hsf.2 j hj
      have hla := hsay.2 j hj
      generalize idxI s.order (j : Int) 0 = ix at hcj hxI
      ((conv => whnf); repeat (first | (apply load_at; (conv => lhs; whnf); (with_reducible assumption); rfl; (conv => whnf)) | (apply load_at; (conv => lhs; rw [add_plain, add_plain]); (with_reducible assumption); rfl; (conv => whnf)) | (apply loads_at; (conv => lhs; whnf); (with_reducible assumption); rfl; (conv => whnf)) | (refine ⟨⟨by omega, by omega⟩, ?_⟩; (conv => whnf))))
      refine load_at (v := .int .u8 (sa.getD j 0).toNat) (adN ps j) hpb (ar_get hsf.1 hj) ?_
      ((conv => whnf); repeat (first | (apply load_at; (conv => lhs; whnf); (with_reducible assumption); rfl; (conv => whnf)) | (apply load_at; (conv => lhs; rw [add_plain, add_plain]); (with_reducible assumption); rfl; (conv => whnf)) | (apply loads_at; (conv => lhs; whnf); (with_reducible assumption); rfl; (conv => whnf)) | (refine ⟨⟨by omega, by omega⟩, ?_⟩; (conv => whnf))))
      refine call_of hxI ?_
      rintro v F7' ⟨rfl, rfl⟩
      ((conv => whnf); repeat (first | (apply load_at; (conv => lhs; whnf); (with_reducible assumption); rfl; (conv => whnf)) | (apply load_at; (conv => lhs; rw [add_plain, add_plain]); (with_reducible assumption); rfl; (conv => whnf)) | (apply loads_at; (conv => lhs; whnf); (with_reducible assumption); rfl; (conv => whnf)) | (refine ⟨⟨by omega, by omega⟩, ?_⟩; (conv => whnf))))
      refine cond_split (fun h => ?_) (fun h => ?_)
      · have hge : ix ≥ 0 := of_decide_eq_true h
        ((conv => whnf); repeat (first | (apply load_at; (conv => lhs; whnf); (with_reducible assumption); rfl; (conv => whnf)) | (apply load_at; (conv => lhs; rw [add_plain, add_plain]); (with_reducible assumption); rfl; (conv => whnf)) | (apply loads_at; (conv => lhs; whnf); (with_reducible assumption); rfl; (conv => whnf)) | (refine ⟨⟨by omega, by omega⟩, ?_⟩; (conv => whnf))))
        refine call_of (containsInts keep ix A2 c2 F7' (hkeep.mono (hF6.trans hE7)) (by omega)) ?_
        rintro v F7'' ⟨rfl, rfl⟩
        ((conv => whnf); repeat (first | (apply load_at; (conv => lhs; whnf); (with_reducible assumption); rfl; (conv => whnf)) | (apply load_at; (conv => lhs; rw [add_plain, add_plain]); (with_reducible assumption); rfl; (conv => whnf)) | (apply loads_at; (conv => lhs; whnf); (with_reducible assumption); rfl; (conv => whnf)) | (refine ⟨⟨by omega, by omega⟩, ?_⟩; (conv => whnf))))
        refine cond_split (fun h => ?_) (fun h => ?_)
        · have hin : ix ∈ keep := of_decide_eq_true h
          ((conv => whnf); repeat (first | (apply load_at; (conv => lhs; whnf); (with_reducible assumption); rfl; (conv => whnf)) | (apply load_at; (conv => lhs; rw [add_plain, add_plain]); (with_reducible assumption); rfl; (conv => whnf)) | (apply loads_at; (conv => lhs; whnf); (with_reducible assumption); rfl; (conv => whnf)) | (refine ⟨⟨by omega, by omega⟩, ?_⟩; (conv => whnf))))
          refine load_at (v := .int .u8 (la.getD j 0).toNat) (adN pl j) hlb (ar_get hsay.1 hj) ?_
          have hrl : readL (crashS s keep) (j : Int) = List.replicate 256 (la.getD j 0) := by rw [hcj.2, if_pos ⟨hge, hin⟩]; exact hla
          ((conv => whnf); repeat (first | (apply load_at; (conv => lhs; whnf); (with_reducible assumption); rfl; (conv => whnf)) | (apply load_at; (conv => lhs; rw [add_plain, add_plain]); (with_reducible assumption); rfl; (conv => whnf)) | (apply loads_at; (conv => lhs; whnf); (with_reducible assumption); rfl; (conv => whnf)) | (refine ⟨⟨by omega, by omega⟩, ?_⟩; (conv => whnf))))
          refine call_of (read (hM6.inn.trans hE7) hD6 (j : Int)) ?_
          rintro v F8 ⟨u, rfl, hr8, hE8⟩
          rw [hrl] at hr8
          obtain ⟨A8, c8, rfl, hc8, hw8, _⟩ := hr8
          refine short [2, 7, 9, 10, 15, 16, 17, 100, 122] [.slice A2 keep.length c2, .pointer (some ⟨b, 0, none⟩), .pointer (some ⟨ps, 0, none⟩), .pointer (some ⟨pl, 0, none⟩), .slice PA s.order.length pc, .int .i64 (j : Int), .int .u8 (la.getD j 0).toNat, .int .i64 (j : Int), .tuple #[.slice A8 (List.replicate 256 (la.getD j 0)).length c8, .int .i64 0]] (by rw [← hcj.1]; rfl) fun ρ => ?_
          ((conv => whnf); repeat (first | (apply load_at; (conv => lhs; whnf); (with_reducible assumption); rfl; (conv => whnf)) | (apply load_at; (conv => lhs; rw [add_plain, add_plain]); (with_reducible assumption); rfl; (conv => whnf)) | (apply loads_at; (conv => lhs; whnf); (with_reducible assumption); rfl; (conv => whnf)) | (refine ⟨⟨by omega, by omega⟩, ?_⟩; (conv => whnf))))
          refine call_of (sector (la.getD j 0) F8) ?_
          rintro v F9 ⟨hr9, hE9⟩
          obtain ⟨A9, c9, rfl, hc9, hw9, _⟩ := hr9
          have heq := bytesEqual (List.replicate 256 (la.getD j 0)) (List.replicate 256 (la.getD j 0)) A8 A9 c8 c9 F9 (hw8.mono hE9) hw9
          rw [beq_self_eq_true] at heq
          ((conv => whnf); repeat (first | (apply load_at; (conv => lhs; whnf); (with_reducible assumption); rfl; (conv => whnf)) | (apply load_at; (conv => lhs; rw [add_plain, add_plain]); (with_reducible assumption); rfl; (conv => whnf)) | (apply loads_at; (conv => lhs; whnf); (with_reducible assumption); rfl; (conv => whnf)) | (refine ⟨⟨by omega, by omega⟩, ?_⟩; (conv => whnf))))
          refine call_of heq ?_
          rintro v F10 ⟨rfl, rfl⟩
          ((conv => whnf); repeat (first | (apply load_at; (conv => lhs; whnf); (with_reducible assumption); rfl; (conv => whnf)) | (apply load_at; (conv => lhs; rw [add_plain, add_plain]); (with_reducible assumption); rfl; (conv => whnf)) | (apply loads_at; (conv => lhs; whnf); (with_reducible assumption); rfl; (conv => whnf)) | (refine ⟨⟨by omega, by omega⟩, ?_⟩; (conv => whnf))))
          refine ⟨k3 - 1, by omega, j + 1, by omega, ?_, hE7.trans (hE8.trans hE9)⟩
          rw [← wrap_succ (j := j) (by omega)]
          rfl
        · have hin : ¬ ix ∈ keep := of_decide_eq_false h
          have hrl : readL (crashS s keep) (j : Int) = List.replicate 256 (sa.getD j 0) := by rw [hcj.2, if_neg (fun e => hin e.2)]; exact hsa
          ((conv => whnf); repeat (first | (apply load_at; (conv => lhs; whnf); (with_reducible assumption); rfl; (conv => whnf)) | (apply load_at; (conv => lhs; rw [add_plain, add_plain]); (with_reducible assumption); rfl; (conv => whnf)) | (apply loads_at; (conv => lhs; whnf); (with_reducible assumption); rfl; (conv => whnf)) | (refine ⟨⟨by omega, by omega⟩, ?_⟩; (conv => whnf))))
          refine call_of (read (hM6.inn.trans hE7) hD6 (j : Int)) ?_
          rintro v F8 ⟨u, rfl, hr8, hE8⟩
          rw [hrl] at hr8
          obtain ⟨A8, c8, rfl, hc8, hw8, _⟩ := hr8
          refine short [2, 7, 9, 10, 15, 16, 17, 100, 122] [.slice A2 keep.length c2, .pointer (some ⟨b, 0, none⟩), .pointer (some ⟨ps, 0, none⟩), .pointer (some ⟨pl, 0, none⟩), .slice PA s.order.length pc, .int .i64 (j : Int), .int .u8 (sa.getD j 0).toNat, .int .i64 (j : Int), .tuple #[.slice A8 (List.replicate 256 (sa.getD j 0)).length c8, .int .i64 0]] (by rw [← hcj.1]; rfl) fun ρ => ?_
          ((conv => whnf); repeat (first | (apply load_at; (conv => lhs; whnf); (with_reducible assumption); rfl; (conv => whnf)) | (apply load_at; (conv => lhs; rw [add_plain, add_plain]); (with_reducible assumption); rfl; (conv => whnf)) | (apply loads_at; (conv => lhs; whnf); (with_reducible assumption); rfl; (conv => whnf)) | (refine ⟨⟨by omega, by omega⟩, ?_⟩; (conv => whnf))))
          refine call_of (sector (sa.getD j 0) F8) ?_
          rintro v F9 ⟨hr9, hE9⟩
          obtain ⟨A9, c9, rfl, hc9, hw9, _⟩ := hr9
          have heq := bytesEqual (List.replicate 256 (sa.getD j 0)) (List.replicate 256 (sa.getD j 0)) A8 A9 c8 c9 F9 (hw8.mono hE9) hw9
          rw [beq_self_eq_true] at heq
          ((conv => whnf); repeat (first | (apply load_at; (conv => lhs; whnf); (with_reducible assumption); rfl; (conv => whnf)) | (apply load_at; (conv => lhs; rw [add_plain, add_plain]); (with_reducible assumption); rfl; (conv => whnf)) | (apply loads_at; (conv => lhs; whnf); (with_reducible assumption); rfl; (conv => whnf)) | (refine ⟨⟨by omega, by omega⟩, ?_⟩; (conv => whnf))))
          refine call_of heq ?_
          rintro v F10 ⟨rfl, rfl⟩
          ((conv => whnf); repeat (first | (apply load_at; (conv => lhs; whnf); (with_reducible assumption); rfl; (conv => whnf)) | (apply load_at; (conv => lhs; rw [add_plain, add_plain]); (with_reducible assumption); rfl; (conv => whnf)) | (apply loads_at; (conv => lhs; whnf); (with_reducible assumption); rfl; (conv => whnf)) | (refine ⟨⟨by omega, by omega⟩, ?_⟩; (conv => whnf))))
          refine ⟨k3 - 1, by omega, j + 1, by omega, ?_, hE7.trans (hE8.trans hE9)⟩
          rw [← wrap_succ (j := j) (by omega)]
          rfl
      · have hge : ¬ ix ≥ 0 := of_decide_eq_false h
        ((conv => whnf); repeat (first | (apply load_at; (conv => lhs; whnf); (with_reducible assumption); rfl; (conv => whnf)) | (apply load_at; (conv => lhs; rw [add_plain, add_plain]); (with_reducible assumption); rfl; (conv => whnf)) | (apply loads_at; (conv => lhs; whnf); (with_reducible assumption); rfl; (conv => whnf)) | (refine ⟨⟨by omega, by omega⟩, ?_⟩; (conv => whnf))))
        have hrl : readL (crashS s keep) (j : Int) = List.replicate 256 (sa.getD j 0) := by rw [hcj.2, if_neg (fun e => hge e.1)]; exact hsa
        ((conv => whnf); repeat (first | (apply load_at; (conv => lhs; whnf); (with_reducible assumption); rfl; (conv => whnf)) | (apply load_at; (conv => lhs; rw [add_plain, add_plain]); (with_reducible assumption); rfl; (conv => whnf)) | (apply loads_at; (conv => lhs; whnf); (with_reducible assumption); rfl; (conv => whnf)) | (refine ⟨⟨by omega, by omega⟩, ?_⟩; (conv => whnf))))
        refine call_of (read (hM6.inn.trans hE7) hD6 (j : Int)) ?_
        rintro v F8 ⟨u, rfl, hr8, hE8⟩
        rw [hrl] at hr8
        obtain ⟨A8, c8, rfl, hc8, hw8, _⟩ := hr8
        refine short [2, 7, 9, 10, 15, 16, 17, 100, 122] [.slice A2 keep.length c2, .pointer (some ⟨b, 0, none⟩), .pointer (some ⟨ps, 0, none⟩), .pointer (some ⟨pl, 0, none⟩), .slice PA s.order.length pc, .int .i64 (j : Int), .int .u8 (sa.getD j 0).toNat, .int .i64 (j : Int), .tuple #[.slice A8 (List.replicate 256 (sa.getD j 0)).length c8, .int .i64 0]] (by rw [← hcj.1]; rfl) fun ρ => ?_
        ((conv => whnf); repeat (first | (apply load_at; (conv => lhs; whnf); (with_reducible assumption); rfl; (conv => whnf)) | (apply load_at; (conv => lhs; rw [add_plain, add_plain]); (with_reducible assumption); rfl; (conv => whnf)) | (apply loads_at; (conv => lhs; whnf); (with_reducible assumption); rfl; (conv => whnf)) | (refine ⟨⟨by omega, by omega⟩, ?_⟩; (conv => whnf))))
        refine call_of (sector (sa.getD j 0) F8) ?_
        rintro v F9 ⟨hr9, hE9⟩
        obtain ⟨A9, c9, rfl, hc9, hw9, _⟩ := hr9
        have heq := bytesEqual (List.replicate 256 (sa.getD j 0)) (List.replicate 256 (sa.getD j 0)) A8 A9 c8 c9 F9 (hw8.mono hE9) hw9
        rw [beq_self_eq_true] at heq
        ((conv => whnf); repeat (first | (apply load_at; (conv => lhs; whnf); (with_reducible assumption); rfl; (conv => whnf)) | (apply load_at; (conv => lhs; rw [add_plain, add_plain]); (with_reducible assumption); rfl; (conv => whnf)) | (apply loads_at; (conv => lhs; whnf); (with_reducible assumption); rfl; (conv => whnf)) | (refine ⟨⟨by omega, by omega⟩, ?_⟩; (conv => whnf))))
        refine call_of heq ?_
        rintro v F10 ⟨rfl, rfl⟩
        ((conv => whnf); repeat (first | (apply load_at; (conv => lhs; whnf); (with_reducible assumption); rfl; (conv => whnf)) | (apply load_at; (conv => lhs; rw [add_plain, add_plain]); (with_reducible assumption); rfl; (conv => whnf)) | (apply loads_at; (conv => lhs; whnf); (with_reducible assumption); rfl; (conv => whnf)) | (refine ⟨⟨by omega, by omega⟩, ?_⟩; (conv => whnf))))
        refine ⟨k3 - 1, by omega, j + 1, by omega, ?_, hE7.trans (hE8.trans hE9)⟩
        rw [← wrap_succ (j := j) (by omega)]
        rfl
    · have hj : j = 16 := by have : ¬ (j : Int) < 16 := of_decide_eq_false h
                             omega
      refine short [7] [.pointer (some ⟨b, 0, none⟩)] rfl fun ρ => ?_
      ((conv => whnf); repeat (first | (apply load_at; (conv => lhs; whnf); (with_reducible assumption); rfl; (conv => whnf)) | (apply load_at; (conv => lhs; rw [add_plain, add_plain]); (with_reducible assumption); rfl; (conv => whnf)) | (apply loads_at; (conv => lhs; whnf); (with_reducible assumption); rfl; (conv => whnf)) | (refine ⟨⟨by omega, by omega⟩, ?_⟩; (conv => whnf))))
      refine call_of (pending (hM6.inn.trans hE7) hD6) ?_
      rintro v F8 ⟨A8, c8, rfl, _, _, _, hE8⟩
      ((conv => whnf); repeat (first | (apply load_at; (conv => lhs; whnf); (with_reducible assumption); rfl; (conv => whnf)) | (apply load_at; (conv => lhs; rw [add_plain, add_plain]); (with_reducible assumption); rfl; (conv => whnf)) | (apply loads_at; (conv => lhs; whnf); (with_reducible assumption); rfl; (conv => whnf)) | (refine ⟨⟨by omega, by omega⟩, ?_⟩; (conv => whnf))))
      refine call_of (Al.awake _) ?_
      rintro v F9 ⟨rfl, hE9⟩
      ((conv => whnf); repeat (first | (apply load_at; (conv => lhs; whnf); (with_reducible assumption); rfl; (conv => whnf)) | (apply load_at; (conv => lhs; rw [add_plain, add_plain]); (with_reducible assumption); rfl; (conv => whnf)) | (apply loads_at; (conv => lhs; whnf); (with_reducible assumption); rfl; (conv => whnf)) | (refine ⟨⟨by omega, by omega⟩, ?_⟩; (conv => whnf))))
      exact ⟨rfl, hF6.trans (hE7.trans (hE8.trans hE9))⟩
end Go.Proofs.Ytkahpaipciooiae.AlDiskSafe
